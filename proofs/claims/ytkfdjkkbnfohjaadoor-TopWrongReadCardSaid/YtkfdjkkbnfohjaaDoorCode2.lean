import Derived.Test.YtkfdjkkbnfohjaaDoorCode1
set_option maxRecDepth 8000
set_option maxHeartbeats 4000000
namespace Go.Proofs.YtkfdjkkbnfohjaaDoor
open Go.RowKit
def f52 (x0 : Design) : Option (Int) :=
 jn (σ := Unit) (fun _ =>
  some ((0 : Int))
  ) fun x6 =>
 (f74 ((1 : Int)) ((24 : Int)) (([(x0).Hooks] : List Int))).bind fun y56 =>
 bif (!y56) then
  some ((2 : Int))
 else
  bif (decide ((((x0).Rows).length : Int) > (60 : Int))) then
   some ((5 : Int))
  else
   bif ((((x0).Rows).length : Int) == (0 : Int)) then
    some ((7 : Int))
   else
    (shl64 (1 : Int) (x0).Hooks).bind fun u3 =>
    (f74 ((0 : Int)) ((w64 (u3 - (1 : Int)))) ((x0).Rows)).bind fun y71 =>
    bif (!y71) then
     some ((2 : Int))
    else
     x6 ()
theorem en52 : Enters Tryd.prog 52 := enters_of Tryd.func52 (by kernel_rfl) rfl
theorem wk52 {gI : Gh} {wI : World} {x0 : Design} {up0 : Value} (rp0 : RV gI.m wI x0 up0) {r : Int} (h : f52 x0 = some r) : Fn Tryd.prog 52 #[up0] gI wI (fun _ _ v => v = .int .i64 (r)) := by
 unfold f52 at h
 refine fn_of_E Tryd.func52 rfl (Nat.le_of_ble_eq_true rfl) fun g0 hm hfr => ?_
 have rp0 : RV g0.m wI x0 up0 := hm ▸ rp0
 show E _ 28 none _ _ _ _ _
 refine E_seq (E_region (EL_do .plain rfl (D_box (g := g0) rfl rp0 fun g1 w1 p1 hs q1 => ?_)))
 have hfr := hfr.ext hs
 refine EL_at (.int .i64 (0)) rfl rfl ?_
 refine EL_nil (thn_n (E_joinC h (fun (s : Unit) e w => ∃ (g : Gh) , Fr gI wI g w) (fun X51 x6 i7 h => ?_) ?_))
 ·refine E_block ?_
  refine E_seq (E_region (EL_p (fPtr p1 0) (P_fieldAddr at_55_0 rfl (PT.ptr q1)) rfl ?_))
  have n8 := PT_field (part_Design_0).1 q1
  refine EL_do .plain rfl (D_load (g := g1) Tryd.isAgg3 Tryd.sizeOf3 rfl n8 fun iB r8 => ?_)
  obtain rfl := RV_int.1 r8
  refine EL_do .plain rfl (D_buildSlice (g := g1) 3006 (xs := ([(x0).Hooks] : List Int)) (vs := [.int .i64 ((x0).Hooks)]) Tryd.underlying34 Tryd.sizeOf3 Tryd.zeroValue3 rfl rfl (.cons rfl .nil) (RVs.cons (RV_int.2 rfl) RVs.nil) rfl rfl fun v8 lB x8 hs o54 a9 hxt hfl => ?_)
  have hfr := hfr.stp hs
  have q1 := q1.stp hs
  obtain ⟨y56, m7, h⟩ := bsome h
  refine EL_do .plain rfl (D_call (g := v8) (vs := [.int .i64 (1), .int .i64 (24), x8]) en74 (.cons rfl (.cons rfl (.cons rfl .nil))) (wk74 a9 m7) fun i6 yA mB hs hr => ?_)
  have hfr := hfr.ext hs
  have q1 := q1.ext hs
  subst hr
  refine EL_p (.bool (!y56)) (P_not rfl) rfl ?_
  refine EL_at (.bool (!y56)) rfl rfl ?_
  refine EL_nil (thn_n ?_)
  rcases csome h with ⟨l5, h⟩ | ⟨l5, h⟩
  ·refine E_ct l5 rfl ?_
   refine E_seq (E_region (EL_at (.int .i64 (2)) rfl rfl ?_))
   refine EL_nil (thn_n (E_ret (blk_r ?_)))
   refine thn_r ?_
   obtain rfl := sinj h
   exact end1 rfl rfl (show _ = .int .i64 (2) from rfl) ⟨_, hfr, rfl⟩
  ·refine E_cf l5 rfl ?_
   refine E_seq (E_region (EL_p (fPtr p1 1) (P_fieldAddr at_55_1 rfl (PT.ptr q1)) rfl ?_))
   have d9 := PT_field (part_Design_1).1 q1
   refine EL_do .plain rfl (D_load (g := i6) Tryd.isAgg34 Tryd.sizeOf34 rfl d9 fun nB k9 => ?_)
   refine EL_p (.int .i64 (((x0).Rows).length : Int)) (P_len Tryd.underlying34 rfl k9) rfl ?_
   refine EL_p (.bool ((decide ((((x0).Rows).length : Int) > (60 : Int))))) (P_int rfl rfl rfl) rfl ?_
   refine EL_p (.bool ((decide ((((x0).Rows).length : Int) > (60 : Int))))) (P_assign rfl) rfl ?_
   refine EL_nil (thn_n ?_)
   rcases csome h with ⟨t5, h⟩ | ⟨t5, h⟩
   ·refine E_ct t5 rfl ?_
    refine E_seq (E_region (EL_at (.int .i64 (5)) rfl rfl ?_))
    refine EL_nil (thn_n (E_ret (blk_r ?_)))
    refine thn_r ?_
    obtain rfl := sinj h
    exact end1 rfl rfl (show _ = .int .i64 (5) from rfl) ⟨_, hfr, rfl⟩
   ·refine E_cf t5 rfl ?_
    refine E_seq (E_region (EL_p (fPtr p1 1) (P_fieldAddr at_55_1 rfl (PT.ptr q1)) rfl ?_))
    have l9 := PT_field (part_Design_1).1 q1
    refine EL_do .plain rfl (D_load (g := i6) Tryd.isAgg34 Tryd.sizeOf34 rfl l9 fun v62 n9 => ?_)
    refine EL_p (.int .i64 (((x0).Rows).length : Int)) (P_len Tryd.underlying34 rfl n9) rfl ?_
    refine EL_in (.bool (((((x0).Rows).length : Int) == (0 : Int)))) rfl rfl rfl rfl ?_
    refine EL_at (.bool (((((x0).Rows).length : Int) == (0 : Int)))) rfl rfl ?_
    refine EL_nil (thn_n ?_)
    rcases csome h with ⟨x5, h⟩ | ⟨x5, h⟩
    ·refine E_ct x5 rfl ?_
     refine E_seq (E_region (EL_at (.int .i64 (7)) rfl rfl ?_))
     refine EL_nil (thn_n (E_ret (blk_r ?_)))
     refine thn_r ?_
     obtain rfl := sinj h
     exact end1 rfl rfl (show _ = .int .i64 (7) from rfl) ⟨_, hfr, rfl⟩
    ·refine E_cf x5 rfl ?_
     refine E_seq ?_
     have u9 := PT_field (part_Design_0).1 q1
     refine L_load (x := .tmp 20) Tryd.isAgg3 Tryd.sizeOf3 u9 fun oB y9 g8 => ?_
     obtain rfl := RV_int.1 y9
     obtain ⟨u3, k8, h⟩ := bsome h
     have z9 := PT_field (part_Design_1).1 q1
     refine L_load (x := .tmp 24) Tryd.isAgg34 Tryd.sizeOf34 z9 fun y6 bA l8 => ?_
     obtain ⟨y71, m8, h⟩ := bsome h
     refine E_drawL (g := i6) (n := 9) [(6, (fun v g w => v = .bool (y71)))] [0, 1, 2, 3, 4, 5, 6, 7, 8] rfl mixed (by kernel_rfl) (⟨fun _ => up_eq _, trivial⟩) ?_
     refine L_p (fPtr p1 0) rfl rfl (P_fieldAddr at_55_0 rfl (PT.ptr q1)) ?_
     refine L_ld (c := .int .i64 ((x0).Hooks)) rfl rfl .plain (fun _ _ h => h.ch) g8 rfl ?_
     refine L_p (.int .i64 (u3)) rfl rfl (P_int rfl rfl (congrArg (Option.map (Value.int .i64)) k8)) ?_
     refine L_p (.int .i64 ((w64 (u3 - (1 : Int))))) rfl rfl (P_int rfl rfl rfl) ?_
     refine L_p (fPtr p1 1) rfl rfl (P_fieldAddr at_55_1 rfl (PT.ptr q1)) ?_
     refine L_ld (c := y6) rfl rfl .plain (fun _ _ h => h.ch) l8 rfl ?_
     refine L_do (φ := fun v g w => v = .bool (y71)) rfl rfl .plain (fun g w hd => D_call (g := g) (vs := [.int .i64 (0), .int .i64 ((w64 (u3 - (1 : Int)))), y6]) en74 (.cons rfl (.cons rfl (.cons rfl .nil))) (wk74 (bA.ext hd.1) m8) fun g' w' v hs hr => ⟨g', hs, hr⟩) (fun tB hv => ?_)
     obtain ⟨_, _, _, rfl⟩ := hv
     refine L_p (.bool (!y71)) rfl rfl (P_not rfl) ?_
     refine L_p (.bool (!y71)) rfl rfl (P_assign rfl) ?_
     refine L_nl fun iA vB hs => ?_
     have hfr := hfr.ext hs
     clear hs
     refine EL_nil (thn_n ?_)
     rcases csome h with ⟨o0, h⟩ | ⟨o0, h⟩
     ·refine E_ct o0 rfl ?_
      refine E_seq (E_region (EL_at (.int .i64 (2)) rfl rfl ?_))
      refine EL_nil (thn_n (E_ret (blk_r ?_)))
      refine thn_r ?_
      obtain rfl := sinj h
      exact end1 rfl rfl (show _ = .int .i64 (2) from rfl) ⟨_, hfr, rfl⟩
     ·refine E_cf o0 rfl ?_
      exact E_skip (blk_n (thn_n (i7 () _ _ ⟨iA, hfr⟩ h)))
 ·rintro _ rA aB ⟨dB, hfr⟩ h
  refine E_seq (E_region (EL_at (.int .i64 (0)) rfl rfl ?_))
  refine EL_nil (thn_n (E_ret ?_))
  obtain rfl := sinj h
  exact end1 rfl rfl (show _ = .int .i64 (0) from rfl) ⟨_, hfr, rfl⟩
def f67 (x0 : TieTieHarness) (x1 : List Str) : Option (Int × Int × Int × Bool) :=
 (f113 x0).bind fun y4 =>
 jn (σ := Unit) (fun _ =>
  some ((0 : Int), (0 : Int), (0 : Int), false)
  ) fun aD =>
 lp (σ := Int) (fun bD o0 =>
  bif (decide (o0 < ((x1).length : Int))) then
   jn (σ := Unit) (fun _ =>
    bD ((w64 (o0 + (1 : Int))))
    ) fun cD =>
   (idx x1 o0).bind fun x5 =>
   lp (σ := Int) (fun eD u3 =>
    bif (decide (u3 < ((((x0).TieHarness).Warps).length : Int))) then
     jn (σ := Unit) (fun _ =>
      eD ((w64 (u3 + (1 : Int))))
      ) fun gD =>
     (idx (((x0).TieHarness).Warps) u3).bind fun l5 =>
     (idx (x5).b u3).bind fun n9 =>
     (idx (x5).b ((mget y4 l5).getD (0 : Int))).bind fun u9 =>
     bif (n9 != u9) then
      some (o0, u3, ((mget y4 l5).getD (0 : Int)), true)
     else
      gD ()
    else
     cD ()
    ) big ((0 : Int))
  else
   aD ()
  ) big ((0 : Int))
theorem en67 : Enters Tryd.prog 67 := enters_of Tryd.func67 (by kernel_rfl) rfl
theorem wk67 {gI : Gh} {wI : World} {x0 : TieTieHarness} {x1 : List Str} {up0 : Value} (rp0 : RV gI.m wI x0 up0) {up1 : Value} (rp1 : RV gI.m wI x1 up1) {r : Int × Int × Int × Bool} (h : f67 x0 x1 = some r) : Fn Tryd.prog 67 #[up0, up1] gI wI (fun m w v => ∃ y0 y1 y2 y3, v = .tuple #[y0, y1, y2, y3] ∧ y0 = .int .i64 (r.1) ∧ y1 = .int .i64 (r.2.1) ∧ y2 = .int .i64 (r.2.2.1) ∧ y3 = .bool (r.2.2.2)) := by
 unfold f67 at h
 refine fn_of_E Tryd.func67 rfl (Nat.le_of_ble_eq_true rfl) fun g0 hm hfr => ?_
 have rp0 : RV g0.m wI x0 up0 := hm ▸ rp0
 have rp1 : RV g0.m wI x1 up1 := hm ▸ rp1
 show E _ 47 none _ _ _ _ _
 refine E_seq (E_region (EL_do .plain rfl (D_box (g := g0) rfl rp0 fun g1 w1 p1 hs q1 => ?_)))
 have hfr := hfr.ext hs
 have rp1 := rp1.ext hs
 iterate 3 refine EL_at (.int .i64 (0)) rfl rfl ?_
 refine EL_at (.bool false) rfl rfl ?_
 refine EL_nil (thn_n (E_seq (E_region (EL_do .plain rfl (D_load (g := g1) Tryd.isAgg129 Tryd.sizeOf129 rfl q1 fun v2 r2 => ?_)))))
 obtain ⟨y4, tF, h⟩ := bsome h
 refine EL_do .plain rfl (D_callG (g := g1) (vs := [v2]) en113 (.cons rfl .nil) (wk113 (iO := 8415) r2 tF) fun g3 w3_ v3 hs hr => ?_)
 have hfr := hfr.ext hs
 have rp1 := rp1.ext hs
 have q1 := q1.ext hs
 have hm3 := hr
 refine EL_at v3 rfl rfl ?_
 refine EL_nil (thn_n (E_joinC h (fun (s : Unit) e w => ∃ (g : Gh) , Fr gI wI g w) (fun X173 aD bE h => ?_) ?_))
 ·refine E_seq (E_region (EL_mw up1 rfl rfl ?_))
  refine EL_p (.int .i64 ((x1).length : Int)) (P_len Tryd.underlying57 rfl rp1) rfl ?_
  refine EL_mw (.int .i64 (0)) rfl rfl ?_
  refine EL_nil (thn_n (E_block ?_))
  refine E_lp h (fun (s : Int) e w => ∃ (g : Gh) , Fr gI wI g w ∧ e 2 = p1 ∧ PT g.m w (x0 : TieTieHarness) p1 ∧ e 8 = v3 ∧ MP (Value.int .i64) 8415 g w (y4 : List (Int × Int)) v3 ∧ e 16 = up1 ∧ RV g.m w (x1 : List Str) up1 ∧ e 17 = .int .i64 (((x1).length : Int)) ∧ e 18 = .int .i64 (s)) ⟨g3, hfr, rfl, q1, rfl, hm3, rfl, rp1, rfl, rfl⟩ (fun X174 bD iE => ?_)
  rintro o0 uF aG ⟨y9, hfr, yA, l8, iD, jD, r8, g8, v8, x6⟩ h
  refine E_seq (E_region (EL_in (.bool ((decide (o0 < ((x1).length : Int))))) x6 v8 rfl rfl ?_))
  refine EL_nil (thn_n (E_seq ?_))
  rcases csome h with ⟨z9, h⟩ | ⟨z9, h⟩
  ·refine E_ct z9 rfl ?_
   refine E_skip (thn_n (E_joinC h (fun (s : Unit) e w => ∃ (g : Gh) , Fr gI wI g w ∧ e 2 = p1 ∧ PT g.m w (x0 : TieTieHarness) p1 ∧ e 8 = v3 ∧ MP (Value.int .i64) 8415 g w (y4 : List (Int × Int)) v3 ∧ e 16 = up1 ∧ RV g.m w (x1 : List Str) up1 ∧ e 17 = .int .i64 (((x1).length : Int)) ∧ e 18 = .int .i64 (o0)) (fun X258 cD lE h => ?_) ?_))
   ·refine E_block ?_
    refine E_seq (E_region (EL_mv x6 rfl ?_))
    obtain ⟨x5, iB, h⟩ := bsome h
    refine EL_p (ePtr up1 o0 1) (P_indexAddr (α := Str) Tryd.underlying57 Tryd.sizeOf9 r8 g8 x6 iB) rfl ?_
    have vE := PT_idx g8 iB
    refine EL_do .plain rfl (D_load (g := y9) Tryd.isAgg9 Tryd.sizeOf9 rfl vE fun bG xE => ?_)
    obtain rfl := RV_str.1 xE
    refine EL_at (.int .i64 (o0)) rfl rfl ?_
    refine EL_at (Str.v (x5)) rfl rfl ?_
    refine EL_nil (thn_n (E_seq (E_region (EL_p (fPtr p1 0) (P_fieldAddr at_129_0 yA (PT.ptr l8)) rfl ?_))))
    have lD := PT_field (part_TieTieHarness_0).1 l8
    refine EL_p (fPtr (fPtr p1 0) 1) (P_fieldAddr at_52_1 rfl (PT.ptr lD)) rfl ?_
    have yE := PT_field (part_TieHarness_1).1 lD
    refine EL_do .plain rfl (D_load (g := y9) Tryd.isAgg34 Tryd.sizeOf34 rfl yE fun m8 nD => ?_)
    refine EL_p (.int .i64 ((((x0).TieHarness).Warps).length : Int)) (P_len Tryd.underlying34 rfl nD) rfl ?_
    refine EL_mw (.int .i64 (0)) rfl rfl ?_
    refine EL_nil (thn_n (E_block ?_))
    refine E_lp h (fun (s : Int) e w => ∃ (g : Gh) , Fr gI wI g w ∧ e 2 = p1 ∧ PT g.m w (x0 : TieTieHarness) p1 ∧ e 8 = v3 ∧ MP (Value.int .i64) 8415 g w (y4 : List (Int × Int)) v3 ∧ e 9 = .int .i64 (o0) ∧ e 10 = Str.v (x5) ∧ e 16 = up1 ∧ RV g.m w (x1 : List Str) up1 ∧ e 17 = .int .i64 (((x1).length : Int)) ∧ e 18 = .int .i64 (o0) ∧ e 25 = m8 ∧ RV g.m w (((x0).TieHarness).Warps : List Int) m8 ∧ e 26 = .int .i64 (((((x0).TieHarness).Warps).length : Int)) ∧ e 27 = .int .i64 (s)) ⟨y9, hfr, yA, l8, iD, jD, rfl, rfl, r8, g8, v8, x6, rfl, nD, rfl, rfl⟩ (fun X265 eD mE => ?_)
    rintro u3 vF cG ⟨bA, hfr, aB, m7, n8, i6, dB, k8, x8, y6, a9, d9, k9, t5, l9, i7⟩ h
    refine E_seq (E_region (EL_p (.bool ((decide (u3 < ((((x0).TieHarness).Warps).length : Int))))) (P_int i7 l9 rfl) rfl ?_))
    refine EL_nil (thn_n (E_seq ?_))
    rcases csome h with ⟨iA, h⟩ | ⟨iA, h⟩
    ·refine E_ct iA rfl ?_
     refine E_skip (thn_n (E_joinC h (fun (s : Unit) e w => ∃ (g : Gh) , Fr gI wI g w ∧ e 2 = p1 ∧ PT g.m w (x0 : TieTieHarness) p1 ∧ e 8 = v3 ∧ MP (Value.int .i64) 8415 g w (y4 : List (Int × Int)) v3 ∧ e 9 = .int .i64 (o0) ∧ e 10 = Str.v (x5) ∧ e 16 = up1 ∧ RV g.m w (x1 : List Str) up1 ∧ e 17 = .int .i64 (((x1).length : Int)) ∧ e 18 = .int .i64 (o0) ∧ e 25 = m8 ∧ RV g.m w (((x0).TieHarness).Warps : List Int) m8 ∧ e 26 = .int .i64 (((((x0).TieHarness).Warps).length : Int)) ∧ e 27 = .int .i64 (u3)) (fun X303 gD oE h => ?_) ?_))
     ·refine E_block ?_
      refine E_seq (E_region (EL_mv i7 rfl ?_))
      obtain ⟨l5, lB, h⟩ := bsome h
      refine EL_p (ePtr m8 u3 1) (P_indexAddr (α := Int) Tryd.underlying34 Tryd.sizeOf3 k9 t5 i7 lB) rfl ?_
      have zE := PT_idx t5 lB
      refine EL_do .plain rfl (D_load (g := bA) Tryd.isAgg3 Tryd.sizeOf3 rfl zE fun eG cF => ?_)
      obtain rfl := RV_int.1 cF
      refine EL_at (.int .i64 (u3)) rfl rfl ?_
      refine EL_at (.int .i64 (l5)) rfl rfl ?_
      refine EL_nil (thn_n (E_seq (E_region (EL_mv n8 rfl ?_))))
      refine EL_mw (.int .i64 (l5)) rfl rfl ?_
      refine EL_do .plain rfl (D_lookup (g := bA) (z0 := (0 : Int)) Tryd.underlying168 key_3 Tryd.zeroValue3 (fun m w => ⟨_, rep_int, rfl⟩) rfl i6 rfl fun gG dF => ?_)
      obtain rfl := RV_int.1 dF
      refine EL_at (.int .i64 (((mget y4 l5).getD (0 : Int)))) rfl rfl ?_
      refine EL_nil (thn_n (E_seq ?_))
      obtain ⟨n9, rE, h⟩ := bsome h
      obtain ⟨u9, uE, h⟩ := bsome h
      refine E_drawL (g := bA) (n := 7) [] [0, 1, 2, 3, 4, 5, 6] rfl mixed (by kernel_rfl) trivial ?_
      refine L_p (Str.v (x5)) rfl rfl (P_move k8) ?_
      refine L_p (.int .i64 (u3)) rfl rfl (P_move rfl) ?_
      refine L_p (.int .u8 (UInt8.toNat (n9))) rfl rfl (P_indexS Tryd.underlying9 rfl rfl rE) ?_
      refine L_p (Str.v (x5)) rfl rfl (P_move k8) ?_
      refine L_p (.int .i64 (((mget y4 l5).getD (0 : Int)))) rfl rfl (P_move rfl) ?_
      refine L_p (.int .u8 (UInt8.toNat (u9))) rfl rfl (P_indexS Tryd.underlying9 rfl rfl uE) ?_
      refine L_p (.bool ((n9 != u9))) rfl rfl (P_u8 rfl rfl rfl) ?_
      refine L_nl fun eF hG hs => ?_
      have hfr := hfr.ext hs
      have m7 := m7.ext hs
      have i6 := i6.ext hs
      have y6 := y6.ext hs
      have t5 := t5.ext hs
      clear hs
      refine EL_nil (thn_n ?_)
      rcases csome h with ⟨rA, h⟩ | ⟨rA, h⟩
      ·refine E_ct rA rfl ?_
       refine E_seq (E_region (EL_mv dB rfl ?_))
       refine EL_mw (.int .i64 (u3)) rfl rfl ?_
       refine EL_mw (.int .i64 (((mget y4 l5).getD (0 : Int)))) rfl rfl ?_
       refine EL_at (.int .i64 (o0)) rfl rfl ?_
       refine EL_at (.int .i64 (u3)) rfl rfl ?_
       refine EL_at (.int .i64 (((mget y4 l5).getD (0 : Int)))) rfl rfl ?_
       refine EL_at (.bool true) rfl rfl ?_
       refine EL_nil (thn_n (E_ret (blk_r ?_)))
       refine thn_r ?_
       refine thn_r ?_
       refine blk_r ?_
       refine blk_r ?_
       refine thn_r ?_
       refine thn_r ?_
       refine blk_r ?_
       refine thn_r ?_
       obtain rfl := sinj h
       exact end4 rfl rfl (show _ = .int .i64 (o0) from rfl) (show _ = .int .i64 (u3) from rfl) (show _ = .int .i64 (((mget y4 l5).getD (0 : Int))) from rfl) (show _ = .bool true from rfl) ⟨_, hfr, _, _, _, _, rfl, rfl, rfl, rfl, rfl⟩
      ·refine E_cf rA rfl ?_
       exact E_skip (blk_n (thn_n (oE () _ _ ⟨eF, hfr, aB, m7, n8, i6, dB, k8, x8, y6, a9, d9, k9, t5, l9, i7⟩ h)))
     ·rintro _ xF iG ⟨rF, hfr, oD, sD, tD, uD, vD, mB, nB, oB, tB, vB, yB, zB, cC, mC⟩ h
      refine E_region (EL_in (.int .i64 ((w64 (u3 + (1 : Int))))) mC rfl rfl rfl ?_)
      refine EL_mw (.int .i64 ((w64 (u3 + (1 : Int))))) rfl rfl ?_
      exact EL_nil (thn_n (mE ((w64 (u3 + (1 : Int)))) _ _ ⟨rF, hfr, oD, sD, tD, uD, vD, mB, nB, oB, tB, vB, yB, zB, cC, rfl⟩ h))
    ·refine E_cf iA rfl ?_
     refine E_exit ?_
     refine thn_e ?_
     refine thn_e ?_
     refine blk_hit ?_
     exact blk_n (thn_n (lE () _ _ ⟨bA, hfr, aB, m7, n8, i6, x8, y6, a9, d9⟩ h))
   ·rintro _ yF jG ⟨sF, hfr, xD, yD, zD, aE, qC, rC, uC, vC⟩ h
    refine E_region (EL_in (.int .i64 ((w64 (o0 + (1 : Int))))) vC rfl rfl rfl ?_)
    refine EL_mw (.int .i64 ((w64 (o0 + (1 : Int))))) rfl rfl ?_
    exact EL_nil (thn_n (iE ((w64 (o0 + (1 : Int)))) _ _ ⟨sF, hfr, xD, yD, zD, aE, qC, rC, uC, rfl⟩ h))
  ·refine E_cf z9 rfl ?_
   refine E_exit ?_
   refine thn_e ?_
   refine thn_e ?_
   refine blk_hit ?_
   exact thn_n (bE () _ _ ⟨y9, hfr⟩ h)
 ·rintro _ zF kG ⟨lG, hfr⟩ h
  refine E_seq (E_region ?_)
  iterate 3 refine EL_at (.int .i64 (0)) rfl rfl ?_
  refine EL_at (.bool false) rfl rfl ?_
  refine EL_nil (thn_n (E_ret ?_))
  obtain rfl := sinj h
  exact end4 rfl rfl (show _ = .int .i64 (0) from rfl) (show _ = .int .i64 (0) from rfl) (show _ = .int .i64 (0) from rfl) (show _ = .bool false from rfl) ⟨_, hfr, _, _, _, _, rfl, rfl, rfl, rfl, rfl⟩
def f68 (x0 : TieHarness) (x1 : List Int) : Option ((List Int) × (List Int) × Int) :=
 jn (σ := (List Int)) (fun xG =>
  (f114 x1).bind fun nH =>
  Option.bind (α := (List Int) × (List (Int × Bool))) (
   (f115 x1).bind fun mI =>
   (mI ((List Int) × (List (Int × Bool))) (fun (cD, u9) (g8, r8) =>
    Option.bind (α := Bool) (
     (f65 ((⟨x0, x1⟩ : EyeBoard)) g8).bind fun mE =>
     bif mE then
      some ((!((mget u9 r8).getD (false : Bool))))
     else
      some (false)
     ) fun aB =>
    bif aB then
     some (true, (cD, (mset u9 r8 true)))
    else
     (apnd 8 cD (([g8] : List Int))).bind fun y130 =>
     some (true, (y130, u9))
    ) (xG, ([] : List (Int × Bool)))).bind fun (oH, pH) =>
   some (oH, pH)
   ) fun (oE, rE) =>
  (f116 oE).bind fun y137 =>
  Option.bind (α := (List Int)) (
   lp (σ := (List Int) × (List (Int × Bool)) × Int) (fun yJ (uE, qH, l5) =>
    bif (decide (l5 < ((y137).length : Int))) then
     Option.bind (α := (List Int) × (List (Int × Bool))) (
      (idx y137 l5).bind fun y324 =>
      lp (σ := (List Int) × (List (Int × Bool)) × Int) (fun zJ (y9, v8, u3) =>
       bif (decide (u3 < (((x0).Warps).length : Int))) then
        jn (σ := (List Int) × (List (Int × Bool))) (fun (vE, xE) =>
         zJ (vE, xE, (w64 (u3 + (1 : Int))))
         ) fun aK =>
        (idx ((x0).Warps) u3).bind fun cC =>
        Option.bind (α := Bool) (
         (idx ((x0).Warps) y324).bind fun tD =>
         bif (cC == tD) then
          some ((!((mget v8 u3).getD (false : Bool))))
         else
          some (false)
         ) fun dB =>
        bif dB then
         (idx y9 y324).bind fun kO =>
         some ((List.set y9 (Int.toNat y324) u3), (mset v8 u3 true))
        else
         aK (y9, v8)
       else
        some (y9, v8)
       ) big (uE, qH, (0 : Int))
      ) fun (eD, gD) =>
     yJ (eD, gD, (w64 (l5 + (1 : Int))))
    else
     some (uE)
    ) big (nH, rE, (0 : Int))
   ) fun yE =>
  some (y137, yE, (0 : Int))
  ) fun aO =>
 (f64 x0 x1).bind fun iD =>
 bif (iD != (0 : Int)) then
  some ([], ([] : List Int), iD)
 else
  aO (([] : List Int))
theorem en68 : Enters Tryd.prog 68 := enters_of Tryd.func68 (by kernel_rfl) rfl
theorem wk68 {gI : Gh} {wI : World} {x0 : TieHarness} {x1 : List Int} {up0 : Value} (rp0 : RV gI.m wI x0 up0) {up1 : Value} (rp1 : RV gI.m wI x1 up1) {r : (List Int) × (List Int) × Int} (h : f68 x0 x1 = some r) : Fn Tryd.prog 68 #[up0, up1] gI wI (fun m w v => ∃ y0 y1 y2, v = .tuple #[y0, y1, y2] ∧ RV m w (r.1) y0 ∧ RV m w (r.2.1) y1 ∧ y2 = .int .i64 (r.2.2)) := by
 unfold f68 at h
 refine fnD_of_E Tryd.func68 rfl (Nat.le_of_ble_eq_true rfl) fun g0 hm hfr => ?_
 have hmk : MkF g0 wI [] := MkF.start
 have rp0 : RV g0.m wI x0 up0 := hm ▸ rp0
 have rp1 : RV g0.m wI x1 up1 := hm ▸ rp1
 show E _ 86 none _ _ _ _ _
 refine E_seq (E_region (EL_do .plain rfl (D_box (g := g0) rfl rp0 fun g1 w1 p1 hs q1 => ?_)))
 have hfr := hfr.ext hs
 have hmk := hmk.ext hs
 have rp1 := rp1.ext hs
 refine EL_do .plain rfl (D_allocOc (g := g1) 2004 (⟨.slice none 0 0, rfl⟩ : Fv) Tryd.zeroValue34 (fun _ _ => fv0_rep) fun g2 w2 p2 hs b2 cb => ?_)
 clear cb
 have hfr := hfr.stp hs
 have hmk := hmk.stp hs
 have rp1 := rp1.stp hs
 have q1 := q1.stp hs
 have z2 : OA 4004 g2 w2 3 ([] : List Int) (.slice none 0 0) := OA.nil
 refine EL_at (.slice none 0 0) rfl rfl ?_
 have b3 : OA 4005 g2 w2 3 ([] : List Int) (.slice none 0 0) := OA.nil
 refine EL_at (.int .i64 (0)) rfl rfl ?_
 refine EL_nil (thn_n (E_joinCD h (fun (s : (List Int)) e ds w => ∃ (g : Gh) , Fr gI wI g w ∧ MkF g w ds ∧ e 1 = up1 ∧ RV g.m w (x1 : List Int) up1 ∧ e 2 = p1 ∧ PT g.m w (x0 : TieHarness) p1 ∧ e 4 = p2 ∧ BXA 2004 4004 g w 3 34 (s : List Int) p2) (fun X13 aO lO h => ?_) ?_))
 ·refine E_seq (E_region (EL_do .plain rfl (D_load (g := g2) Tryd.isAgg52 Tryd.sizeOf52 rfl q1 fun tP uP => ?_)))
  refine EL_mw up1 rfl rfl ?_
  obtain ⟨iD, mO, h⟩ := bsome h
  refine EL_do .plain rfl (D_call (g := g2) (vs := [tP, up1]) en64 (.cons rfl (.cons rfl .nil)) (wk64 uP rp1 mO) fun bO pR mT hs hr => ?_)
  have hfr := hfr.ext hs
  have hmk := hmk.ext hs
  have rp1 := rp1.ext hs
  have q1 := q1.ext hs
  have b2 := b2.ext hs
  have z2 := z2.ext hs
  subst hr
  refine EL_at (.int .i64 (iD)) rfl rfl ?_
  refine EL_nil (thn_n (E_seq (E_region (EL_mw (.int .i64 (iD)) rfl rfl ?_))))
  refine EL_in (.bool ((iD != (0 : Int)))) rfl rfl rfl rfl ?_
  refine EL_nil (thn_n ?_)
  rcases csome h with ⟨kI, h⟩ | ⟨kI, h⟩
  ·refine E_ct kI rfl ?_
   refine E_seq (E_region (EL_mw (.int .i64 (iD)) rfl rfl ?_))
   refine EL_do .plain rfl (D_storeO2 (g := bO) (α := Fv) (b := ([] : List Int)) rfl Tryd.sizeOf34 rfl b2 rfl RV_nil fun vP xP hs b18 => ?_)
   have hfr := hfr.stp hs
   have hmk := hmk.stp hs
   refine EL_at (.slice none 0 0) rfl rfl ?_
   have b19 : OA 4005 vP xP 3 ([] : List Int) (.slice none 0 0) := OA.nil
   refine EL_at (.int .i64 (iD)) rfl rfl ?_
   refine EL_nil (thn_n (E_ret (thn_r ?_)))
   refine endM (.inr rfl) hmk fun nT oT hs => ?_
   have hfr := hfr.stp hs
   have b18 := b18.stp hs rfl
   have b19 := b19.stp hs rfl
   obtain ⟨gp21, hs, rp21⟩ := OM.pub (b19.toM)
   have hfr := hfr.stp hs
   have b18 := b18.stp hs rfl
   obtain rfl := sinj h
   obtain ⟨ad22, cv22, hp22, nO, cr22⟩ := ob_read Tryd.isAgg34 Tryd.sizeOf34 b18
   exact endm_ctt rfl rfl ((show _ = p2 from rfl).trans hp22) nO (show _ = .slice none 0 0 from rfl) (show _ = .int .i64 (iD) from rfl) ⟨_, hfr, _, _, _, rfl, cr22, rp21, rfl⟩
  ·refine E_cf kI rfl ?_
   exact E_skip (thn_n (lO (([] : List Int)) _ _ _ ⟨bO, hfr, hmk, rfl, rp1, rfl, q1, rfl, ⟨_, b2, z2⟩⟩ h))
 ·rintro xG qR yG pT ⟨bK, hfr, hmk, zG, x5, lE, i6, aH, ⟨zQ, x6, y6⟩⟩ h
  refine E_seq (E_region (EL_do .plain rfl (D_load (g := bK) Tryd.isAgg52 Tryd.sizeOf52 lE i6 fun cK cO => ?_)))
  refine EL_mv zG rfl ?_
  have iE : RV bK.m _ (⟨x0, x1⟩ : EyeBoard) (.agg (setCh [[.int .i64 0, .slice none 0 0], [.slice none 0 0]] [(0, cK), (1, up1)]).flatten.toArray) := RV_build rfl (rep_pair (RV.cells cO) (rep_last (RV.cells x5)))
  generalize oO : (Value.agg (setCh [[.int .i64 0, .slice none 0 0], [.slice none 0 0]] [(0, cK), (1, up1)]).flatten.toArray) = dO at iE
  refine EL_p dO (oO ▸ P_build (vs := [(0, cK), (1, up1)]) [[.int .i64 0, .slice none 0 0], [.slice none 0 0]] lay_152 rfl rfl (.cons rfl (.cons rfl .nil)) ⟨⟨_, rfl, cells_size cO⟩, ⟨⟨_, rfl, cells_size x5⟩, trivial⟩⟩) rfl ?_
  refine EL_do .plain rfl (D_makeMap (g := bK) (Value.int .i64) Bool 8025 fun yP sT eO hs m26 => ?_)
  have hfr := hfr.stp hs
  have hmk := hmk.stp hs
  have x5 := x5.stp hs
  have i6 := i6.stp hs
  have x6 := x6.stp hs rfl
  have y6 := y6.stp hs rfl
  have iE := iE.stp hs
  refine EL_do .plain rfl (D_allocOc (g := yP) 2008 (⟨⟨0, []⟩, []⟩ : EyeBoard) Tryd.zeroValue152 (fun m w => ⟨_, (rep_two (rep_two rep_int rep_nil) rep_nil), rfl⟩) fun dK gO sH hs b27 cb => ?_)
  have hfr := hfr.stp hs
  have hmk := hmk.stp hs
  have x5 := x5.stp hs
  have i6 := i6.stp hs
  have x6 := x6.stp hs rfl
  have y6 := y6.stp hs rfl
  have iE := iE.stp hs
  have m26 := m26.stp hs rfl
  have aR : OSF 2008 60801 1 dK gO 3 152 ([] : List Int) sH := cb.osf (by rfl)
  have bR : OSF 2008 60802 2 dK gO 3 152 ([] : List Int) sH := cb.osf (by rfl)
  clear cb
  refine EL_do .plain rfl (D_allocOc (g := dK) 2009 (⟨.map none, rfl⟩ : Fv) Tryd.zeroValue86 (fun _ _ => fvm_rep) fun zP tT z9 hs b28 cb => ?_)
  clear cb
  have hfr := hfr.stp hs
  have hmk := hmk.stp hs
  have x5 := x5.stp hs
  have i6 := i6.stp hs
  have x6 := x6.stp hs rfl
  have y6 := y6.stp hs rfl
  have iE := iE.stp hs
  have m26 := m26.stp hs rfl
  have b27 := b27.stp hs rfl
  refine EL_do .plain rfl (D_storeOc (g := zP) (v := dO) Tryd.sizeOf152 rfl b27 rfl iE fun bQ w29 hs b29 cb => ?_)
  clear cb
  have hfr := hfr.stp hs
  have hmk := hmk.stp hs
  have x5 := x5.stp hs
  have i6 := i6.stp hs
  have x6 := x6.stp hs rfl
  have y6 := y6.stp hs rfl
  have m26 := m26.stp hs rfl
  have b28 := b28.stp hs rfl
  have on30 := mp_one m26
  refine EL_do .plain rfl (D_storeOc (g := bQ) (v := eO) (a' := (⟨eO, on30⟩ : Fv)) Tryd.sizeOf86 rfl b28 rfl (RV_fv.2 rfl) fun cQ uT hs b30 cb => ?_)
  clear cb
  have hfr := hfr.stp hs
  have hmk := hmk.stp hs
  have x5 := x5.stp hs
  have i6 := i6.stp hs
  have x6 := x6.stp hs rfl
  have y6 := y6.stp hs rfl
  have m26 := m26.stp hs rfl
  have b29 := b29.stp hs rfl
  refine EL_nil (thn_n (E_seq (E_region (EL_mv zG rfl ?_))))
  obtain ⟨nH, pO, h⟩ := bsome h
  refine EL_do .plain rfl (D_callG (g := cQ) (vs := [up1]) en114 (.cons rfl .nil) (v114_0 (iO := 9027) x5 pO) fun dQ rR k8 hs hr => ?_)
  have hfr := hfr.ext hs
  have hmk := hmk.ext hs
  have x5 := x5.ext hs
  have i6 := i6.ext hs
  have x6 := x6.ext hs
  have y6 := y6.ext hs
  have b29 := b29.ext hs
  have b30 := b30.ext hs
  have m26 := m26.ext hs
  have hm31 := hr
  refine EL_at k8 rfl rfl ?_
  refine EL_nil (thn_n ?_)
  obtain ⟨⟨oE, rE⟩, hx, h⟩ := bsome h
  refine E_joinD (fun e ds w => ∃ (g : Gh) , Fr gI wI g w ∧ MkF g w ds ∧ e 2 = p1 ∧ PT g.m w (x0 : TieHarness) p1 ∧ e 4 = p2 ∧ BXA 2004 4004 g w 3 34 (oE : List Int) p2 ∧ e 5 = k8 ∧ OM 9027 g w 3 (nH : List Int) k8 ∧ e 9 = z9 ∧ BM (Value.int .i64) 2009 8025 g w 86 (rE : List (Int × Bool)) z9) (fun Q' hQ => ?_) (fun cR eQ tR hR => ?_)
  ·replace h := hx
   clear hx
   refine E_seq (E_region (EL_mv zG rfl ?_))
   obtain ⟨mI, qO, h⟩ := bsome h
   refine EL_do .plain rfl (D_call (g := dQ) (vs := [up1]) en115 (.cons rfl .nil) (wk115 x5 qO) fun xT uR lK hs hr => ?_)
   have hfr := hfr.ext hs
   have hmk := hmk.ext hs
   have i6 := i6.ext hs
   have x6 := x6.ext hs
   have y6 := y6.ext hs
   have b29 := b29.ext hs
   have b30 := b30.ext hs
   have m26 := m26.ext hs
   have hm31 := hm31.ext hs
   have jO := hr
   refine EL_nil (thn_n (E_block ?_))
   have hB0 := hfr.size
   have hmk0 := hmk
   obtain ⟨⟨oH, pH⟩, hφ, h⟩ := bsome h
   refine E_rangeFunc (σ := ((List Int) × (List (Int × Bool)))) (s0 := (xG, ([] : List (Int × Bool)))) 10 rfl (fun _ => 0) [] (fun (s : (List Int) × (List (Int × Bool))) (g : Gh) (w : World) => Fr gI wI g w ∧ MkF g w yG ∧ PT g.m w (x0 : TieHarness) p1 ∧ BXA 2004 4004 g w 3 34 (s.1 : List Int) p2 ∧ OM 9027 g w 3 (nH : List Int) k8 ∧ OB 2008 g w 152 ((⟨x0, x1⟩ : EyeBoard) : EyeBoard) sH ∧ BM (Value.int .i64) 2009 8025 g w 86 (s.2 : List (Int × Bool)) z9 ∧ ItV Tryd.prog (RA2 (α := Int) (β := Int)) mI lK g.m w) rfl jO hφ (fun _ _ _ _ => rfl) rfl ra2_size rfl (fun _ _ _ _ _ hx hR => by obtain ⟨hfr, hmk, z2, z3, z4, z5, z6, z7⟩ := hR; exact ⟨hfr.ist hx hB0, hmk.ist hx, z2.ist hx, z3.ist hx, z4.ist hx, z5.ist hx, z6.ist hx, z7.ist hx⟩) (fun _ _ _ _ _ hx hR => by obtain ⟨hfr, hmk, z2, z3, z4, z5, z6, z7⟩ := hR; exact ⟨hfr.stp hx, hmk.stp hx, z2.stp hx, z3.stp hx rfl, z4.stp hx rfl, z5.stp hx rfl, z6.stp hx rfl, z7.stp hx⟩) ⟨hfr, hmk, i6, ⟨_, x6, y6⟩, hm31, b29, ⟨_, b30, m26⟩, jO⟩ (fun _ h => by cases h) ?_ ?_
   ·intro rN mK s x b s2 cH nK vs hsz h hR hrec_0 tI hrd
    obtain ⟨cD, u9⟩ := s
    obtain ⟨hfr, hmk, iB, ⟨zE, lB, mB⟩, nB, bA, ⟨oK, iA, rA⟩, n9⟩ := hR
    obtain ⟨g8, r8⟩ := x
    obtain ⟨pK, qK, rfl, uI, vI⟩ := ra2_get hrd
    obtain rfl : pK = .int .i64 (g8) := RV_int.1 uI
    obtain rfl : qK = .int .i64 (r8) := RV_int.1 vI
    have t5 := RFr.refl cH nK
    refine E_seq (E_region (EL_at (.int .i64 (g8)) rfl rfl ?_))
    refine EL_nil (thn_n (E_region (EL_at (.int .i64 (r8)) rfl rfl ?_)))
    refine EL_nil (thn_n ?_)
    obtain ⟨rO, hbr, hs, hrN⟩ := begin_round hrec_0 tI
    refine ⟨rO, hbr, ?_⟩
    have hfr := hfr.stp hs
    have hmk := hmk.stp hs
    have t5 := t5.stp hs
    have iB := iB.stp hs
    have lB := lB.stp hs rfl
    have mB := mB.stp hs rfl
    have nB := nB.stp hs rfl
    have bA := bA.stp hs rfl
    have iA := iA.stp hs rfl
    have rA := rA.stp hs rfl
    have n9 := n9.stp hs
    have hrec_0 := hrN
    clear hbr hs hrN
    refine E_block ?_
    obtain ⟨aB, hx, h⟩ := bsome h
    refine E_join (fun e w => ∃ (g : Gh) , Fr gI wI g w ∧ MkF g w yG ∧ RFr cH nK g w ∧ HB 10 g w rN (.loop { mK with state := .busy }) ∧ e 2 = p1 ∧ PT g.m w (x0 : TieHarness) p1 ∧ e 4 = p2 ∧ BXAF 2004 4004 g w 3 34 zE zE.v (cD : List Int) p2 ∧ e 5 = k8 ∧ OM 9027 g w 3 (nH : List Int) k8 ∧ e 8 = sH ∧ OB 2008 g w 152 ((⟨x0, x1⟩ : EyeBoard) : EyeBoard) sH ∧ e 9 = z9 ∧ BM (Value.int .i64) 2009 8025 g w 86 (u9 : List (Int × Bool)) z9 ∧ e 10 = .int .i64 (g8) ∧ e 11 = .int .i64 (r8) ∧ e 29 = lK ∧ ItV Tryd.prog (RA2 (α := Int) (β := Int)) mI lK g.m w ∧ e 40 = .bool (aB)) (fun Q' hQ => ?_) (fun dR vR hR => ?_)
    ·replace h := hx
     clear hx
     refine E_region (EL_do .plain rfl (D_loadO (g := cH) Tryd.isAgg152 Tryd.sizeOf152 rfl bA fun sO tO => ?_))
     refine EL_mw (.int .i64 (g8)) rfl rfl ?_
     obtain ⟨mE, sN, h⟩ := bsome h
     refine EL_do .plain rfl (D_call (g := cH) (vs := [sO, .int .i64 (g8)]) en65 (.cons rfl (.cons rfl .nil)) (wk65 tO sN) fun dH eR xR hs hr => ?_)
     have hfr := hfr.ext hs
     have hmk := hmk.ext hs
     have t5 := t5.ext hs
     have hrec_0 := hrec_0.ext hs
     have iB := iB.ext hs
     have lB := lB.ext hs
     have mB := mB.ext hs
     have nB := nB.ext hs
     have bA := bA.ext hs
     have iA := iA.ext hs
     have rA := rA.ext hs
     have n9 := n9.ext hs
     subst hr
     refine EL_mw (.bool (mE)) rfl rfl ?_
     rcases csome h with ⟨k9, h⟩ | ⟨k9, h⟩
     ·refine EL_do (.yes2 rfl rfl k9) rfl (D_loadO (α := Fv) (g := dH) Tryd.isAgg86 Tryd.sizeOf86 rfl iA fun sK tK => ?_)
      have e121 : sK = oK.v := RV_fv.1 tK
      clear tK
      subst sK
      refine EL_y (.int .i64 (r8)) (P_move rfl) rfl rfl k9 rfl ?_
      refine EL_do (.yes2 rfl rfl k9) rfl (D_lookup (g := dH) (z0 := (false : Bool)) Tryd.underlying86 key_3 Tryd.zeroValue4 (fun m w => ⟨_, rep_bool, rfl⟩) rfl rA rfl fun yR uO => ?_)
      obtain rfl := RV_bool.1 uO
      refine EL_y (.bool (!((mget u9 r8).getD (false : Bool)))) (P_not rfl) rfl rfl k9 rfl ?_
      refine EL_p (.bool (!((mget u9 r8).getD (false : Bool)))) (P_pick (b := mE) rfl (pick_t k9 rfl)) rfl ?_
      refine EL_nil ?_
      obtain rfl := sinj h
      exact hQ _ _ ⟨dH, hfr, hmk, t5, hrec_0, lE, iB, aH, ⟨lB, mB⟩, rfl, nB, rfl, bA, rfl, ⟨_, iA, rA⟩, rfl, rfl, rfl, n9, rfl⟩
     ·refine EL_s rfl rfl k9 rfl rfl ?_
      iterate 3 refine EL_s rfl rfl k9 rfl rfl ?_
      refine EL_p (.bool false) (P_pick (b := mE) rfl (pick_f k9 rfl)) rfl ?_
      refine EL_nil ?_
      obtain rfl := sinj h
      exact hQ _ _ ⟨dH, hfr, hmk, t5, hrec_0, lE, iB, aH, ⟨lB, mB⟩, rfl, nB, rfl, bA, rfl, ⟨_, iA, rA⟩, rfl, rfl, rfl, n9, rfl⟩
    ·clear hx
     obtain ⟨gH, hfr, hmk, t5, hrec_0, gQ, l8, tH, ⟨x8, oB⟩, iQ, m8, jQ, n8, uK, ⟨vK, m7, a9⟩, yI, zI, pP, i7, eG⟩ := hR
     rcases csome h with ⟨iH, h⟩ | ⟨iH, h⟩
     ·refine E_cond_true (Eq.trans (show ev _ _ = .bool (aB) from eG) (congrArg Value.bool iH)) ?_
      refine E_region (EL_do .plain rfl (D_loadO (α := Fv) (g := gH) Tryd.isAgg86 Tryd.sizeOf86 uK m7 fun xK yK => ?_))
      have e125 : xK = vK.v := RV_fv.1 yK
      clear yK
      subst xK
      refine EL_mv zI rfl ?_
      refine EL_do .plain rfl (D_mapUpdate (g := gH) Tryd.underlying86 key_3 rfl a9 rfl rfl (RV_bool.2 rfl) fun zR aS hs m126 => ?_)
      have hfr := hfr.stp hs
      have hmk := hmk.stp hs
      have t5 := t5.stp hs
      have hrec_0 := hrec_0.stp hs rfl
      have l8 := l8.stp hs
      have x8 := x8.stp hs rfl
      have oB := oB.stp hs rfl
      have m8 := m8.stp hs rfl
      have n8 := n8.stp hs rfl
      have m7 := m7.stp hs rfl
      have i7 := i7.stp hs
      refine EL_nil (blk_n ?_)
      obtain ⟨rfl, rfl⟩ := pairs2 h
      exact ⟨_, t5, ⟨hfr, hmk, l8, ⟨_, x8, oB⟩, m8, n8, ⟨_, m7, m126⟩, i7⟩, hrec_0, rfl, rfl⟩
     ·refine E_cond_false (Eq.trans (show ev _ _ = .bool (aB) from eG) (congrArg Value.bool iH)) ?_
      refine E_region (EL_do .plain rfl (D_loadO (α := Fv) (g := gH) Tryd.isAgg34 Tryd.sizeOf34 tH x8 fun zK aL => ?_))
      have e127 : zK = zE.v := RV_fv.1 aL
      clear aL
      subst zK
      refine EL_mv yI rfl ?_
      refine EL_do .plain rfl (D_buildSlice (g := gH) 3045 (xs := ([g8] : List Int)) (vs := [.int .i64 (g8)]) Tryd.underlying34 Tryd.sizeOf3 Tryd.zeroValue3 rfl rfl (.cons rfl .nil) (RVs.cons (RV_int.2 rfl) RVs.nil) rfl rfl fun vO bS cS hs o128 xO hxt hfl => ?_)
      have hfr := hfr.stp hs
      have hmk := hmk.stp hs
      have t5 := t5.stp hs
      have hrec_0 := hrec_0.stp hs rfl
      have l8 := l8.stp hs
      have x8 := x8.stp hs rfl
      have oB := oB.stp hs rfl
      have m8 := m8.stp hs rfl
      have n8 := n8.stp hs rfl
      have m7 := m7.stp hs rfl
      have a9 := a9.stp hs rfl
      have i7 := i7.stp hs
      obtain ⟨y130, tN, h⟩ := bsome h
      refine EL_do .plain rfl (D_appendA (g := vO) plain_int (i := 4004) Tryd.underlying34 info_3 rfl rfl oB rfl xO tN fun yO dS bL hs b129 => ?_)
      have hfr := hfr.stp hs
      have hmk := hmk.stp hs
      have t5 := t5.stp hs
      have hrec_0 := hrec_0.stp hs rfl
      have l8 := l8.stp hs
      have x8 := x8.stp hs rfl
      have m8 := m8.stp hs rfl
      have n8 := n8.stp hs rfl
      have m7 := m7.stp hs rfl
      have a9 := a9.stp hs rfl
      have i7 := i7.stp hs
      have on131 := om_one (b129.toM)
      refine EL_do .plain rfl (D_storeOc (g := yO) (v := bL) (a' := (⟨bL, on131⟩ : Fv)) Tryd.sizeOf34 tH x8 rfl (RV_fv.2 rfl) fun eS gS hs b131 cb => ?_)
      clear cb
      have hfr := hfr.stp hs
      have hmk := hmk.stp hs
      have t5 := t5.stp hs
      have hrec_0 := hrec_0.stp hs rfl
      have l8 := l8.stp hs
      have m8 := m8.stp hs rfl
      have n8 := n8.stp hs rfl
      have m7 := m7.stp hs rfl
      have a9 := a9.stp hs rfl
      have i7 := i7.stp hs
      have b129 := b129.stp hs rfl
      refine EL_nil (blk_n ?_)
      obtain ⟨rfl, rfl⟩ := pairs2 h
      exact ⟨_, t5, ⟨hfr, hmk, l8, ⟨_, b131, b129⟩, m8, n8, ⟨_, m7, a9⟩, i7⟩, hrec_0, rfl, rfl⟩
   ·intro zO iS ds133 hsz hR hds
    obtain ⟨hfr, hmk, dL, ⟨kQ, eL, gL⟩, iL, lQ, ⟨mQ, jL, lL⟩, sP⟩ := hR
    obtain ⟨D, hdse, hD, hDb⟩ := hds.1 rfl
    subst hdse
    replace hmk := MkF.push hmk0 hmk hD hDb
    clear hD hDb hds
    revert hmk
    generalize ({ target := .collected D, args := #[] } :: yG : List Deferred) = nQ
    intro hmk
    refine ⟨fun _ => ?_, fun k c hs _ => absurd hs (Nat.succ_ne_zero k).symm⟩
    refine blk_n ?_
    obtain ⟨rfl, rfl⟩ := pairs2 h
    exact hQ _ _ _ ⟨zO, hfr, hmk, lE, dL, aH, ⟨_, eL, gL⟩, rfl, iL, rfl, ⟨_, jL, lL⟩⟩
  ·clear hx
   obtain ⟨mL, hfr, hmk, nL, cF, dF, ⟨o0, mC, oL⟩, pL, eF, qL, ⟨oQ, rF, sF⟩⟩ := hR
   refine E_seq (E_region (EL_do .plain rfl (D_loadO (α := Fv) (g := mL) Tryd.isAgg34 Tryd.sizeOf34 dF mC fun rL tL => ?_)))
   have e135 : rL = o0.v := RV_fv.1 tL
   clear tL
   subst rL
   obtain ⟨y137, uN, h⟩ := bsome h
   refine EL_do .plain rfl (D_callM (g := mL) (i := 4004) (vs := [o0.v]) en116 (.cons rfl .nil) (wk116 (oL.toM) uN) fun uL gR jS hs hr => ?_)
   obtain ⟨hrv, b136⟩ := hr
   have hfr := hfr.stp hs
   have hmk := hmk.stp hs
   have cF := cF.stp hs
   have mC := mC.stp hs rfl
   have eF := eF.stp hs rfl
   have rF := rF.stp hs rfl
   have sF := sF.stp hs rfl
   subst hrv
   refine EL_nil (thn_n ?_)
   obtain ⟨yE, hx, h⟩ := bsome h
   refine E_joinD (fun e ds w => ∃ (g : Gh) , Fr gI wI g w ∧ MkF g w ds ∧ e 4 = p2 ∧ BXF 2004 4004 g w 3 34 o0 o0.v (y137 : List Int) p2 ∧ e 5 = k8 ∧ OM 9027 g w 3 (yE : List Int) k8) (fun Q' hQ => ?_) (fun iR pQ lS hR => ?_)
   ·replace h := hx
    clear hx
    refine E_seq (E_region (EL_do .plain rfl (D_loadO (α := Fv) (g := uL) Tryd.isAgg34 Tryd.sizeOf34 dF mC fun vL xL => ?_)))
    have e261 : vL = o0.v := RV_fv.1 xL
    clear xL
    subst vL
    refine EL_p (.int .i64 ((y137).length : Int)) (P_lenM Tryd.underlying34 rfl b136) rfl ?_
    refine EL_mw (.int .i64 (0)) rfl rfl ?_
    refine EL_nil (thn_n (E_block ?_))
    refine E_lpD h (fun (s : (List Int) × (List (Int × Bool)) × Int) e ds w => ∃ (g : Gh) , Fr gI wI g w ∧ MkF g w ds ∧ e 2 = p1 ∧ PT g.m w (x0 : TieHarness) p1 ∧ e 4 = p2 ∧ BXF 2004 4004 g w 3 34 o0 o0.v (y137 : List Int) p2 ∧ e 5 = k8 ∧ OM 9027 g w 3 (s.1 : List Int) k8 ∧ e 9 = z9 ∧ BM (Value.int .i64) 2009 8025 g w 86 (s.2.1 : List (Int × Bool)) z9 ∧ e 49 = o0.v ∧ e 50 = .int .i64 (((y137).length : Int)) ∧ e 51 = .int .i64 (s.2.2)) ⟨uL, hfr, hmk, nL, cF, dF, ⟨mC, b136⟩, pL, eF, qL, ⟨_, rF, sF⟩, rfl, rfl, rfl⟩ (fun X262 yJ vN => ?_)
    rintro ⟨uE, qH, l5⟩ jR qQ mS ⟨jH, hfr, hmk, uH, tF, xH, ⟨yH, jD⟩, zH, aI, yL, ⟨rQ, zL, aM⟩, gG, hG, uD⟩ h
    refine E_seq (E_region (EL_in (.bool ((decide (l5 < ((y137).length : Int))))) uD hG rfl rfl ?_))
    refine EL_nil (thn_n (E_seq ?_))
    rcases csome h with ⟨kH, h⟩ | ⟨kH, h⟩
    ·refine E_ct kH rfl ?_
     refine E_skip (thn_n ?_)
     obtain ⟨⟨eD, gD⟩, hx, h⟩ := bsome h
     refine E_joinD (fun e ds w => ∃ (g : Gh) , Fr gI wI g w ∧ MkF g w ds ∧ e 2 = p1 ∧ PT g.m w (x0 : TieHarness) p1 ∧ e 4 = p2 ∧ BXF 2004 4004 g w 3 34 o0 o0.v (y137 : List Int) p2 ∧ e 5 = k8 ∧ OM 9027 g w 3 (eD : List Int) k8 ∧ e 9 = z9 ∧ BM (Value.int .i64) 2009 8025 g w 86 (gD : List (Int × Bool)) z9 ∧ e 49 = o0.v ∧ e 50 = .int .i64 (((y137).length : Int)) ∧ e 51 = .int .i64 (l5)) (fun Q' hQ => ?_) (fun lR sQ nS hR => ?_)
     ·replace h := hx
      clear hx
      refine E_block ?_
      refine E_seq (E_region ?_)
      obtain ⟨y324, nI, h⟩ := bsome h
      refine EL_p (ePtr (o0.v) l5 1) (P_indexAddrM (α := Int) Tryd.underlying34 Tryd.sizeOf3 gG jD uD nI) rfl ?_
      refine EL_do .plain rfl (D_loadM (g := jH) Tryd.isAgg3 Tryd.sizeOf3 rfl jD nI fun oS aP => ?_)
      obtain rfl := RV_int.1 aP
      refine EL_at (.int .i64 (y324)) rfl rfl ?_
      refine EL_nil (thn_n (E_seq (E_region (EL_p (fPtr p1 1) (P_fieldAddr at_52_1 uH (PT.ptr tF)) rfl ?_))))
      have bP := PT_field (part_TieHarness_1).1 tF
      refine EL_do .plain rfl (D_load (g := jH) Tryd.isAgg34 Tryd.sizeOf34 rfl bP fun bD bM => ?_)
      refine EL_p (.int .i64 (((x0).Warps).length : Int)) (P_len Tryd.underlying34 rfl bM) rfl ?_
      refine EL_mw (.int .i64 (0)) rfl rfl ?_
      refine EL_nil (thn_n (E_block ?_))
      refine E_lpD h (fun (s : (List Int) × (List (Int × Bool)) × Int) e ds w => ∃ (g : Gh) , Fr gI wI g w ∧ MkF g w ds ∧ e 2 = p1 ∧ PT g.m w (x0 : TieHarness) p1 ∧ e 4 = p2 ∧ BXF 2004 4004 g w 3 34 o0 o0.v (y137 : List Int) p2 ∧ e 5 = k8 ∧ OM 9027 g w 3 (s.1 : List Int) k8 ∧ e 9 = z9 ∧ BM (Value.int .i64) 2009 8025 g w 86 (s.2.1 : List (Int × Bool)) z9 ∧ e 13 = .int .i64 (y324) ∧ e 49 = o0.v ∧ e 50 = .int .i64 (((y137).length : Int)) ∧ e 51 = .int .i64 (l5) ∧ e 56 = bD ∧ RV g.m w ((x0).Warps : List Int) bD ∧ e 57 = .int .i64 ((((x0).Warps).length : Int)) ∧ e 58 = .int .i64 (s.2.2)) ⟨jH, hfr, hmk, uH, tF, xH, ⟨yH, jD⟩, zH, aI, yL, ⟨_, zL, aM⟩, rfl, gG, hG, uD, rfl, bM, rfl, rfl⟩ (fun X328 zJ xN => ?_)
      rintro ⟨y9, v8, u3⟩ mR tQ pS ⟨qC, hfr, hmk, lD, rC, uF, ⟨vF, xF⟩, yF, zF, nD, ⟨cM, oD, sD⟩, vD, xD, yD, zD, aE, aD, bE, tB⟩ h
      refine E_seq (E_region (EL_p (.bool ((decide (u3 < (((x0).Warps).length : Int))))) (P_int tB bE rfl) rfl ?_))
      refine EL_nil (thn_n (E_seq ?_))
      rcases csome h with ⟨lH, h⟩ | ⟨lH, h⟩
      ·refine E_ct lH rfl ?_
       refine E_skip (thn_n (E_joinCD h (fun (s : (List Int) × (List (Int × Bool))) e ds w => ∃ (g : Gh) , Fr gI wI g w ∧ MkF g w ds ∧ e 2 = p1 ∧ PT g.m w (x0 : TieHarness) p1 ∧ e 4 = p2 ∧ BXF 2004 4004 g w 3 34 o0 o0.v (y137 : List Int) p2 ∧ e 5 = k8 ∧ OM 9027 g w 3 (s.1 : List Int) k8 ∧ e 9 = z9 ∧ BM (Value.int .i64) 2009 8025 g w 86 (s.2 : List (Int × Bool)) z9 ∧ e 13 = .int .i64 (y324) ∧ e 49 = o0.v ∧ e 50 = .int .i64 (((y137).length : Int)) ∧ e 51 = .int .i64 (l5) ∧ e 56 = bD ∧ RV g.m w ((x0).Warps : List Int) bD ∧ e 57 = .int .i64 ((((x0).Warps).length : Int)) ∧ e 58 = .int .i64 (u3)) (fun X356 aK yN h => ?_) ?_))
       ·refine E_block ?_
        refine E_seq (E_region (EL_mv tB rfl ?_))
        obtain ⟨cC, pI, h⟩ := bsome h
        refine EL_p (ePtr bD u3 1) (P_indexAddr (α := Int) Tryd.underlying34 Tryd.sizeOf3 aE aD tB pI) rfl ?_
        have cP := PT_idx aD pI
        refine EL_do .plain rfl (D_load (g := qC) Tryd.isAgg3 Tryd.sizeOf3 rfl cP fun qS dP => ?_)
        obtain rfl := RV_int.1 dP
        refine EL_at (.int .i64 (u3)) rfl rfl ?_
        refine EL_at (.int .i64 (cC)) rfl rfl ?_
        refine EL_nil (thn_n ?_)
        obtain ⟨dB, hx, h⟩ := bsome h
        refine E_joinD (fun e ds w => ∃ (g : Gh) , Fr gI wI g w ∧ MkF g w ds ∧ e 2 = p1 ∧ PT g.m w (x0 : TieHarness) p1 ∧ e 4 = p2 ∧ BXF 2004 4004 g w 3 34 o0 o0.v (y137 : List Int) p2 ∧ e 5 = k8 ∧ OM 9027 g w 3 (y9 : List Int) k8 ∧ e 9 = z9 ∧ BM (Value.int .i64) 2009 8025 g w 86 (v8 : List (Int × Bool)) z9 ∧ e 13 = .int .i64 (y324) ∧ e 14 = .int .i64 (u3) ∧ e 49 = o0.v ∧ e 50 = .int .i64 (((y137).length : Int)) ∧ e 51 = .int .i64 (l5) ∧ e 56 = bD ∧ RV g.m w ((x0).Warps : List Int) bD ∧ e 57 = .int .i64 ((((x0).Warps).length : Int)) ∧ e 58 = .int .i64 (u3) ∧ e 75 = .bool (dB)) (fun Q' hQ => ?_) (fun nR uQ rS hR => ?_)
        ·replace h := hx
         clear hx
         refine E_region (EL_mw (.int .i64 (cC)) rfl rfl ?_)
         refine EL_p (fPtr p1 1) (P_fieldAddr at_52_1 lD (PT.ptr rC)) rfl ?_
         have eP := PT_field (part_TieHarness_1).1 rC
         refine EL_do .plain rfl (D_load (g := qC) Tryd.isAgg34 Tryd.sizeOf34 rfl eP fun gP dM => ?_)
         refine EL_mv vD rfl ?_
         obtain ⟨tD, qI, h⟩ := bsome h
         refine EL_p (ePtr gP y324 1) (P_indexAddr (α := Int) Tryd.underlying34 Tryd.sizeOf3 rfl dM rfl qI) rfl ?_
         have iP := PT_idx dM qI
         refine EL_do .plain rfl (D_load (g := qC) Tryd.isAgg3 Tryd.sizeOf3 rfl iP fun sS jP => ?_)
         obtain rfl := RV_int.1 jP
         refine EL_in (.bool ((cC == tD))) rfl rfl rfl rfl ?_
         refine EL_mw (.bool ((cC == tD))) rfl rfl ?_
         rcases csome h with ⟨l9, h⟩ | ⟨l9, h⟩
         ·refine EL_do (.yes2 rfl rfl l9) rfl (D_loadO (α := Fv) (g := qC) Tryd.isAgg86 Tryd.sizeOf86 nD oD fun eM iM => ?_)
          have e374 : eM = cM.v := RV_fv.1 iM
          clear iM
          subst eM
          refine EL_y (.int .i64 (u3)) (P_move rfl) rfl rfl l9 rfl ?_
          refine EL_do (.yes2 rfl rfl l9) rfl (D_lookup (g := qC) (z0 := (false : Bool)) Tryd.underlying86 key_3 Tryd.zeroValue4 (fun m w => ⟨_, rep_bool, rfl⟩) rfl sD rfl fun tS kP => ?_)
          obtain rfl := RV_bool.1 kP
          refine EL_y (.bool (!((mget v8 u3).getD (false : Bool)))) (P_not rfl) rfl rfl l9 rfl ?_
          refine EL_p (.bool (!((mget v8 u3).getD (false : Bool)))) (P_pick (b := (cC == tD)) rfl (pick_t l9 rfl)) rfl ?_
          refine EL_nil ?_
          obtain rfl := sinj h
          exact hQ _ _ _ ⟨qC, hfr, hmk, lD, rC, uF, ⟨vF, xF⟩, yF, zF, nD, ⟨_, oD, sD⟩, vD, rfl, xD, yD, zD, aE, aD, bE, tB, rfl⟩
         ·refine EL_s rfl rfl l9 rfl rfl ?_
          iterate 3 refine EL_s rfl rfl l9 rfl rfl ?_
          refine EL_p (.bool false) (P_pick (b := (cC == tD)) rfl (pick_f l9 rfl)) rfl ?_
          refine EL_nil ?_
          obtain rfl := sinj h
          exact hQ _ _ _ ⟨qC, hfr, hmk, lD, rC, uF, ⟨vF, xF⟩, yF, zF, nD, ⟨_, oD, sD⟩, vD, rfl, xD, yD, zD, aE, aD, bE, tB, rfl⟩
        ·clear hx
         obtain ⟨lI, hfr, hmk, bI, vB, dI, ⟨yB, zB⟩, aG, uC, bG, ⟨jM, yA, iI⟩, iG, jG, kG, lG, mG, eJ, gJ, iJ, jJ, sG⟩ := hR
         rcases csome h with ⟨mH, h⟩ | ⟨mH, h⟩
         ·refine E_cond_true (Eq.trans (show ev _ _ = .bool (dB) from sG) (congrArg Value.bool mH)) ?_
          refine E_seq (E_region (EL_do .plain rfl (D_loadO (α := Fv) (g := lI) Tryd.isAgg86 Tryd.sizeOf86 bG yA fun kM mM => ?_)))
          have e378 : kM = jM.v := RV_fv.1 mM
          clear mM
          subst kM
          refine EL_mv jG rfl ?_
          refine EL_mv aG rfl ?_
          refine EL_mv iG rfl ?_
          refine EL_mv jG rfl ?_
          refine EL_do .plain rfl (D_mapUpdate (g := lI) Tryd.underlying86 key_3 rfl iI rfl rfl (RV_bool.2 rfl) fun lP uS hs m379 => ?_)
          have hfr := hfr.stp hs
          have hmk := hmk.stp hs
          have vB := vB.stp hs
          have yB := yB.stp hs rfl
          have zB := zB.stp hs rfl
          have uC := uC.stp hs rfl
          have yA := yA.stp hs rfl
          obtain ⟨kO, sI, h⟩ := bsome h
          refine EL_p (ePtr k8 y324 1) (P_indexAddrM (α := Int) Tryd.underlying34 Tryd.sizeOf3 rfl uC rfl sI) rfl ?_
          refine EL_do .plain rfl (D_storeM (g := lP) (α := Int) (a' := u3) Tryd.sizeOf3 rfl uC sI rfl (RV_int.2 rfl) fun mP vS hs b381 => ?_)
          have hfr := hfr.stp hs
          have hmk := hmk.stp hs
          have vB := vB.stp hs
          have yB := yB.stp hs rfl
          have zB := zB.stp hs rfl
          have yA := yA.stp hs rfl
          have m379 := m379.stp hs rfl
          refine EL_nil (thn_n (E_exit ?_))
          refine blk_miss rfl ?_
          refine thn_e ?_
          refine thn_e ?_
          refine blk_hit ?_
          refine blk_n ?_
          obtain ⟨rfl, rfl⟩ := pairs2 h
          exact hQ _ _ _ ⟨mP, hfr, hmk, bI, vB, dI, ⟨yB, zB⟩, aG, b381, bG, ⟨_, yA, m379⟩, kG, lG, mG⟩
         ·refine E_cond_false (Eq.trans (show ev _ _ = .bool (dB) from sG) (congrArg Value.bool mH)) ?_
          exact E_skip (blk_n (thn_n (yN (y9, v8) _ _ _ ⟨lI, hfr, hmk, bI, vB, dI, ⟨yB, zB⟩, aG, uC, bG, ⟨_, yA, iI⟩, iG, kG, lG, mG, eJ, gJ, iJ, jJ⟩ h)))
       ·rintro ⟨vE, xE⟩ oR vQ xS ⟨nP, hfr, hmk, nM, oM, pM, ⟨qM, rM⟩, sM, tM, uM, ⟨xQ, vM, xM⟩, kJ, lJ, mJ, nJ, oJ, pJ, qJ, rJ⟩ h
        refine E_region (EL_in (.int .i64 ((w64 (u3 + (1 : Int))))) rJ rfl rfl rfl ?_)
        refine EL_mw (.int .i64 ((w64 (u3 + (1 : Int))))) rfl rfl ?_
        exact EL_nil (thn_n (xN (vE, xE, (w64 (u3 + (1 : Int)))) _ _ _ ⟨nP, hfr, hmk, nM, oM, pM, ⟨qM, rM⟩, sM, tM, uM, ⟨_, vM, xM⟩, kJ, lJ, mJ, nJ, oJ, pJ, qJ, rfl⟩ h))
      ·refine E_cf lH rfl ?_
       refine E_exit ?_
       refine thn_e ?_
       refine thn_e ?_
       refine blk_hit ?_
       refine blk_n ?_
       obtain ⟨rfl, rfl⟩ := pairs2 h
       exact hQ _ _ _ ⟨qC, hfr, hmk, lD, rC, uF, ⟨vF, xF⟩, yF, zF, nD, ⟨_, oD, sD⟩, xD, yD, zD⟩
     ·clear hx
      obtain ⟨oP, hfr, hmk, bN, cN, dN, ⟨eN, gN⟩, iN, jN, kN, ⟨yQ, lN, mN⟩, sJ, vJ, xJ⟩ := hR
      refine E_region (EL_in (.int .i64 ((w64 (l5 + (1 : Int))))) xJ rfl rfl rfl ?_)
      refine EL_mw (.int .i64 ((w64 (l5 + (1 : Int))))) rfl rfl ?_
      exact EL_nil (thn_n (vN (eD, gD, (w64 (l5 + (1 : Int)))) _ _ _ ⟨oP, hfr, hmk, bN, cN, dN, ⟨eN, gN⟩, iN, jN, kN, ⟨_, lN, mN⟩, sJ, vJ, rfl⟩ h))
    ·refine E_cf kH rfl ?_
     refine E_exit ?_
     refine thn_e ?_
     refine thn_e ?_
     refine blk_hit ?_
     obtain rfl := sinj h
     exact hQ _ _ _ ⟨jH, hfr, hmk, xH, ⟨yH, jD⟩, zH, aI⟩
   ·clear hx
    obtain ⟨nN, hfr, hmk, cG, ⟨jI, d9⟩, oN, vC⟩ := hR
    refine E_seq (E_region (EL_do .plain rfl (D_loadO (α := Fv) (g := nN) Tryd.isAgg34 Tryd.sizeOf34 cG jI fun pN qN => ?_)))
    have e385 : pN = o0.v := RV_fv.1 qN
    clear qN
    subst pN
    refine EL_mv oN rfl ?_
    have on386 := om_one d9
    refine EL_do .plain rfl (D_storeOc (g := nN) (v := o0.v) (a' := (⟨o0.v, on386⟩ : Fv)) Tryd.sizeOf34 cG jI rfl (RV_fv.2 rfl) fun yS zS hs b386 cb => ?_)
    clear cb
    have hfr := hfr.stp hs
    have hmk := hmk.stp hs
    have d9 := d9.stp hs rfl
    have vC := vC.stp hs rfl
    refine EL_at k8 rfl rfl ?_
    refine EL_at (.int .i64 (0)) rfl rfl ?_
    refine EL_nil (thn_n (E_ret (endM (.inr rfl) hmk fun eT lT hs => ?_)))
    have hfr := hfr.stp hs
    have b386 := b386.stp hs rfl
    have d9 := d9.stp hs rfl
    have vC := vC.stp hs rfl
    obtain ⟨gp388, hs, rp388⟩ := OM.pub vC
    have hfr := hfr.stp hs
    have b386 := b386.stp hs rfl
    have d9 := d9.stp hs rfl
    obtain ⟨gp389, hs, rp389⟩ := OM.pub d9
    have hfr := hfr.stp hs
    have b386 := b386.stp hs rfl
    have rp388 := rp388.stp hs
    have ub389 := OB.ofRV b386 rp389
    obtain rfl := sinj h
    obtain ⟨ad390, cv390, hp390, zN, cr390⟩ := ob_read Tryd.isAgg34 Tryd.sizeOf34 ub389
    exact endm_ctt rfl rfl ((show _ = p2 from cG).trans hp390) zN (show _ = k8 from rfl) (show _ = .int .i64 (0) from rfl) ⟨_, hfr, _, _, _, rfl, cr390, rp388, rfl⟩
def f69 (x0 : List Int) : Option ((List Int) × Int) :=
 jn (σ := (List Int)) (fun uE =>
  (f118 x0).bind fun u9 =>
  (f119 u9 ((fun a0 a1 => f120 a0 a1))).bind fun mC =>
  (f121 mC).bind fun vE =>
  Option.bind (α := (List Int)) (
   lp (σ := (List Int) × Int × EyeThread × Int) (fun xE (n8, o0, aB, u3) =>
    bif (decide (u3 < ((u9).length : Int))) then
     Option.bind (α := (List Int) × Int × EyeThread) (
      (idx u9 u3).bind fun t5 =>
      Option.bind (α := Bool) (
       (f120 aB t5).bind fun zB =>
       bif zB then
        (idx mC u3).bind fun yA =>
        bif (yA == o0) then
         some ((decide (o0 > (0 : Int))))
        else
         some (false)
       else
        some (false)
       ) fun d9 =>
      bif d9 then
       (apnd 8 n8 (([(t5).warp] : List Int))).bind fun m7 =>
       some (m7, (w64 (o0 - (1 : Int))), t5)
      else
       some (n8, o0, aB)
      ) fun (y9, dB, iB) =>
     xE (y9, dB, iB, (w64 (u3 + (1 : Int))))
    else
     some (n8)
    ) big (uE, vE, (⟨(-1 : Int), (96 : Int)⟩ : EyeThread), (0 : Int))
   ) fun lB =>
  some (lB, (0 : Int))
  ) fun k4 =>
 (f117 x0).bind fun y6 =>
 bif (y6 != (0 : Int)) then
  some ([], y6)
 else
  k4 ([])
theorem en69 : Enters Tryd.prog 69 := enters_of Tryd.func69 (by kernel_rfl) rfl
theorem wk69 {gI : Gh} {wI : World} {x0 : List Int} {up0 : Value} (rp0 : RV gI.m wI x0 up0) {r : (List Int) × Int} (h : f69 x0 = some r) : Fn Tryd.prog 69 #[up0] gI wI (fun m w v => ∃ y0 y1, v = .tuple #[y0, y1] ∧ RV m w (r.1) y0 ∧ y1 = .int .i64 (r.2)) := by
 unfold f69 at h
 refine fn_of_E Tryd.func69 rfl (Nat.le_of_ble_eq_true rfl) fun g0 hm hfr => ?_
 have rp0 : RV g0.m wI x0 up0 := hm ▸ rp0
 show E _ 55 none _ _ _ _ _
 refine E_seq (E_region (EL_at (.slice none 0 0) rfl rfl ?_))
 refine EL_at (.int .i64 (0)) rfl rfl ?_
 refine EL_nil (thn_n (E_joinC h (fun (s : (List Int)) e w => ∃ (g : Gh) (v2 : Value), Fr gI wI g w ∧ e 0 = up0 ∧ RV g.m w (x0 : List Int) up0 ∧ e 2 = v2 ∧ RV g.m w (s : List Int) v2 ∧ OS 1002 g w 3 (s : List Int) v2) (fun X4 k4 hk4 h => ?_) ?_))
 ·refine E_seq (E_region (EL_mw up0 rfl rfl ?_))
  obtain ⟨y6, xH, h⟩ := bsome h
  refine EL_do .plain rfl (D_call (g := g0) (vs := [up0]) en117 (.cons rfl .nil) (wk117 rp0 xH) fun g5 w5_ v5 hs hr => ?_)
  have hfr := hfr.ext hs
  have rp0 := rp0.ext hs
  subst hr
  refine EL_at (.int .i64 (y6)) rfl rfl ?_
  refine EL_nil (thn_n (E_seq (E_region (EL_mw (.int .i64 (y6)) rfl rfl ?_))))
  refine EL_in (.bool ((y6 != (0 : Int)))) rfl rfl rfl rfl ?_
  refine EL_nil (thn_n ?_)
  rcases csome h with ⟨yE, h⟩ | ⟨yE, h⟩
  ·refine E_ct yE rfl ?_
   refine E_seq (E_region (EL_mw (.int .i64 (y6)) rfl rfl ?_))
   refine EL_at (.slice none 0 0) rfl rfl ?_
   refine EL_at (.int .i64 (y6)) rfl rfl ?_
   refine EL_nil (thn_n (E_ret (thn_r ?_)))
   obtain rfl := sinj h
   exact end2 rfl rfl (show _ = .slice none 0 0 from rfl) (show _ = .int .i64 (y6) from rfl) ⟨_, hfr, _, _, rfl, RV_nil, rfl⟩
  ·refine E_cf yE rfl ?_
   exact E_skip (thn_n (hk4 ([]) _ _ ⟨g5, (.slice none 0 0), hfr, rfl, rp0, rfl, RV_nil, OS.nil⟩ h))
 ·rintro uE kJ w8 ⟨g8, kG, hfr, lG, mG, sG, r8, v8⟩ h
  refine E_seq (E_region (EL_mv lG rfl ?_))
  obtain ⟨u9, xG, h⟩ := bsome h
  refine EL_do .plain rfl (D_call (g := g8) (vs := [up0]) en118 (.cons rfl .nil) (wk118 mG xG) fun g9 w9_ v9 hs hr => ?_)
  have hfr := hfr.ext hs
  have r8 := r8.ext hs
  have v8 := v8.ext hs
  have r9 := hr
  refine EL_at v9 rfl rfl ?_
  refine EL_nil (thn_n (E_seq (E_region (EL_mw v9 rfl rfl ?_))))
  obtain ⟨mC, yG, h⟩ := bsome h
  refine EL_do .plain rfl (D_call (g := g9) (vs := [v9, .func (.func 120) #[] #[]]) en119 (.cons rfl (.cons rfl .nil)) (wk119 r9 ⟨120, #[], #[], rfl, en120, fun g' w' hch a0 a1 b0 b1 r hu0 hu1 hr => by exact Fn.mono (wk120 hu0 hu1  hr) fun _ _ _ h => RV_bool.2 h⟩ yG) fun yH mI z9 hs hr => ?_)
  have hfr := hfr.ext hs
  have r8 := r8.ext hs
  have v8 := v8.ext hs
  have r9 := r9.ext hs
  have yB := hr
  refine EL_at z9 rfl rfl ?_
  refine EL_nil (thn_n (E_seq (E_region (EL_mw z9 rfl rfl ?_))))
  obtain ⟨vE, zG, h⟩ := bsome h
  refine EL_do .plain rfl (D_call (g := yH) (vs := [z9]) en121 (.cons rfl .nil) (wk121 yB zG) fun iG aH lJ hs hr => ?_)
  have hfr := hfr.ext hs
  have r8 := r8.ext hs
  have v8 := v8.ext hs
  have r9 := r9.ext hs
  have yB := yB.ext hs
  subst hr
  have aE : RV iG.m aH (⟨(-1 : Int), (96 : Int)⟩ : EyeThread) (.agg (setCh [[.int .i64 0], [.int .i64 0]] [(0, .int .i64 (-1)), (1, .int .i64 (96))]).flatten.toArray) := RV_build rfl (rep_pair (rfl) (rep_last (rfl)))
  generalize cH : (Value.agg (setCh [[.int .i64 0], [.int .i64 0]] [(0, .int .i64 (-1)), (1, .int .i64 (96))]).flatten.toArray) = jG at aE
  refine EL_p jG (cH ▸ P_build (vs := [(0, .int .i64 (-1)), (1, .int .i64 (96))]) [[.int .i64 0], [.int .i64 0]] lay_231 rfl rfl (.cons rfl (.cons rfl .nil)) ⟨⟨_, rfl, rfl⟩, ⟨⟨_, rfl, rfl⟩, trivial⟩⟩) rfl ?_
  refine EL_do .plain rfl (D_allocOc (g := iG) 2008 (⟨0, 0⟩ : EyeThread) Tryd.zeroValue231 (fun m w => ⟨_, (rep_two rep_int rep_int), rfl⟩) fun zH mJ qC hs b16 cb => ?_)
  have hfr := hfr.stp hs
  have r8 := r8.stp hs
  have v8 := v8.stp hs rfl
  have r9 := r9.stp hs
  have yB := yB.stp hs
  have aE := aE.stp hs
  clear cb
  refine EL_at (.int .i64 (vE)) rfl rfl ?_
  refine EL_do .plain rfl (D_storeOc (g := zH) (v := jG) Tryd.sizeOf231 rfl b16 rfl aE fun aI nJ hs b17 cb => ?_)
  clear cb
  have hfr := hfr.stp hs
  have r8 := r8.stp hs
  have v8 := v8.stp hs rfl
  have r9 := r9.stp hs
  have yB := yB.stp hs
  refine EL_nil (thn_n ?_)
  obtain ⟨lB, hx, h⟩ := bsome h
  refine E_join (fun e w => ∃ (g : Gh) (v2 : Value), Fr gI wI g w ∧ e 2 = v2 ∧ RV g.m w (lB : List Int) v2 ∧ OS 1002 g w 3 (lB : List Int) v2) (fun Q' hQ => ?_) (fun dI nI hR => ?_)
  ·replace h := hx
   clear hx
   refine E_seq (E_region (EL_mw v9 rfl rfl ?_))
   refine EL_p (.int .i64 ((u9).length : Int)) (P_len Tryd.underlying225 rfl r9) rfl ?_
   refine EL_mw (.int .i64 (0)) rfl rfl ?_
   refine EL_nil (thn_n (E_block ?_))
   refine E_lp h (fun (s : (List Int) × Int × EyeThread × Int) e w => ∃ (g : Gh) (v2 : Value), Fr gI wI g w ∧ e 2 = v2 ∧ RV g.m w (s.1 : List Int) v2 ∧ OS 1002 g w 3 (s.1 : List Int) v2 ∧ e 6 = z9 ∧ RV g.m w (mC : List Int) z9 ∧ e 7 = .int .i64 (s.2.1) ∧ e 8 = qC ∧ OB 2008 g w 231 (s.2.2.1 : EyeThread) qC ∧ e 23 = v9 ∧ RV g.m w (u9 : List EyeThread) v9 ∧ e 24 = .int .i64 (((u9).length : Int)) ∧ e 25 = .int .i64 (s.2.2.2)) ⟨aI, (kG), hfr, sG, r8, v8, rfl, yB, rfl, rfl, b17, rfl, r9, rfl, rfl⟩ (fun X133 xE bG => ?_)
   rintro ⟨n8, o0, aB, u3⟩ iI pI ⟨tD, x8, hfr, mB, i6, x6, nB, x5, bA, oB, i7, iA, l5, rA, l8⟩ h
   refine E_seq (E_region (EL_in (.bool ((decide (u3 < ((u9).length : Int))))) l8 rA rfl rfl ?_))
   refine EL_nil (thn_n (E_seq ?_))
   rcases csome h with ⟨cD, h⟩ | ⟨cD, h⟩
   ·refine E_ct cD rfl ?_
    refine E_skip (thn_n ?_)
    obtain ⟨⟨y9, dB, iB⟩, hx, h⟩ := bsome h
    refine E_join (fun e w => ∃ (g : Gh) (v2 : Value), Fr gI wI g w ∧ e 2 = v2 ∧ RV g.m w (y9 : List Int) v2 ∧ OS 1002 g w 3 (y9 : List Int) v2 ∧ e 6 = z9 ∧ RV g.m w (mC : List Int) z9 ∧ e 7 = .int .i64 (dB) ∧ e 8 = qC ∧ OB 2008 g w 231 (iB : EyeThread) qC ∧ e 23 = v9 ∧ RV g.m w (u9 : List EyeThread) v9 ∧ e 24 = .int .i64 (((u9).length : Int)) ∧ e 25 = .int .i64 (u3)) (fun Q' hQ => ?_) (fun jI qI hR => ?_)
    ·replace h := hx
     clear hx
     refine E_block ?_
     refine E_seq (E_region (EL_mv l8 rfl ?_))
     obtain ⟨t5, bE, h⟩ := bsome h
     refine EL_p (ePtr v9 u3 2) (P_indexAddr (α := EyeThread) Tryd.underlying225 Tryd.sizeOf231 iA l5 l8 bE) rfl ?_
     have dH := PT_idx l5 bE
     refine EL_do .plain rfl (D_load (g := tD) Tryd.isAgg231 Tryd.sizeOf231 rfl dH fun gH uD => ?_)
     refine EL_do .plain rfl (D_allocOc (g := tD) 2010 (⟨0, 0⟩ : EyeThread) Tryd.zeroValue231 (fun m w => ⟨_, (rep_two rep_int rep_int), rfl⟩) fun iH sI vD hs b194 cb => ?_)
     have hfr := hfr.stp hs
     have i6 := i6.stp hs
     have x6 := x6.stp hs rfl
     have x5 := x5.stp hs
     have i7 := i7.stp hs rfl
     have l5 := l5.stp hs
     have uD := uD.stp hs
     clear cb
     refine EL_at (.int .i64 (u3)) rfl rfl ?_
     refine EL_do .plain rfl (D_storeOc (g := iH) (v := gH) Tryd.sizeOf231 rfl b194 rfl uD fun xD tI hs b195 cb => ?_)
     clear cb
     have hfr := hfr.stp hs
     have i6 := i6.stp hs
     have x6 := x6.stp hs rfl
     have x5 := x5.stp hs
     have i7 := i7.stp hs rfl
     have l5 := l5.stp hs
     refine EL_nil (thn_n ?_)
     obtain ⟨d9, hx, h⟩ := bsome h
     refine E_join (fun e w => ∃ (g : Gh) , Fr gI wI g w ∧ e 2 = x8 ∧ RV g.m w (n8 : List Int) x8 ∧ OS 1002 g w 3 (n8 : List Int) x8 ∧ e 6 = z9 ∧ RV g.m w (mC : List Int) z9 ∧ e 7 = .int .i64 (o0) ∧ e 8 = qC ∧ OB 2008 g w 231 (aB : EyeThread) qC ∧ e 10 = vD ∧ OB 2010 g w 231 (t5 : EyeThread) vD ∧ e 23 = v9 ∧ RV g.m w (u9 : List EyeThread) v9 ∧ e 24 = .int .i64 (((u9).length : Int)) ∧ e 25 = .int .i64 (u3) ∧ e 44 = .bool (d9)) (fun Q' hQ => ?_) (fun kI jH hR => ?_)
     ·replace h := hx
      clear hx
      refine E_region (EL_do .plain rfl (D_loadO (g := xD) Tryd.isAgg231 Tryd.sizeOf231 oB i7 fun kH lH => ?_))
      refine EL_do .plain rfl (D_loadO (g := xD) Tryd.isAgg231 Tryd.sizeOf231 rfl b195 fun mH nH => ?_)
      obtain ⟨zB, cG, h⟩ := bsome h
      refine EL_do .plain rfl (D_call (g := xD) (vs := [kH, mH]) en120 (.cons rfl (.cons rfl .nil)) (wk120 lH nH cG) fun eD lI uI hs hr => ?_)
      have hfr := hfr.ext hs
      have i6 := i6.ext hs
      have x6 := x6.ext hs
      have x5 := x5.ext hs
      have i7 := i7.ext hs
      have l5 := l5.ext hs
      have b195 := b195.ext hs
      subst hr
      refine EL_mw (.bool (zB)) rfl rfl ?_
      rcases csome h with ⟨k8, h⟩ | ⟨k8, h⟩
      ·refine EL_y z9 (P_move nB) rfl rfl k8 rfl ?_
       refine EL_y (.int .i64 (u3)) (P_move rfl) rfl rfl k8 rfl ?_
       obtain ⟨yA, iE, h⟩ := bsome h
       refine EL_y (ePtr z9 u3 1) (P_indexAddr (α := Int) Tryd.underlying34 Tryd.sizeOf3 rfl x5 rfl iE) rfl rfl k8 rfl ?_
       have oH := PT_idx x5 iE
       refine EL_do (.yes2 rfl rfl k8) rfl (D_load (g := eD) Tryd.isAgg3 Tryd.sizeOf3 rfl oH fun vI pH => ?_)
       obtain rfl := RV_int.1 pH
       refine EL_y (.int .i64 (o0)) (P_move bA) rfl rfl k8 rfl ?_
       refine EL_y (.bool ((yA == o0))) (P_int rfl rfl rfl) rfl rfl k8 rfl ?_
       refine EL_p (.bool ((yA == o0))) (P_pick (b := zB) rfl (pick_t k8 rfl)) rfl ?_
       refine EL_mw (.bool ((yA == o0))) rfl rfl ?_
       rcases csome h with ⟨l9, h⟩ | ⟨l9, h⟩
       ·refine EL_y (.int .i64 (o0)) (P_move bA) rfl rfl l9 rfl ?_
        refine EL_y (.bool ((decide (o0 > (0 : Int))))) (P_int rfl rfl rfl) rfl rfl l9 rfl ?_
        refine EL_p (.bool ((decide (o0 > (0 : Int))))) (P_pick (b := (yA == o0)) rfl (pick_t l9 rfl)) rfl ?_
        refine EL_nil ?_
        obtain rfl := sinj h
        exact hQ _ _ ⟨eD, hfr, mB, i6, x6, nB, x5, bA, oB, i7, rfl, b195, iA, l5, rA, l8, rfl⟩
       ·refine EL_s rfl rfl l9 rfl rfl ?_
        refine EL_s rfl rfl l9 rfl rfl ?_
        refine EL_p (.bool false) (P_pick (b := (yA == o0)) rfl (pick_f l9 rfl)) rfl ?_
        refine EL_nil ?_
        obtain rfl := sinj h
        exact hQ _ _ ⟨eD, hfr, mB, i6, x6, nB, x5, bA, oB, i7, rfl, b195, iA, l5, rA, l8, rfl⟩
      ·refine EL_s rfl rfl k8 rfl rfl ?_
       iterate 5 refine EL_s rfl rfl k8 rfl rfl ?_
       refine EL_p (.bool false) (P_pick (b := zB) rfl (pick_f k8 rfl)) rfl ?_
       refine EL_dead 4 rfl ?_
       refine EL_nil ?_
       obtain rfl := sinj h
       exact hQ _ _ ⟨eD, hfr, mB, i6, x6, nB, x5, bA, oB, i7, rfl, b195, iA, l5, rA, l8, rfl⟩
     ·clear hx
      obtain ⟨zE, hfr, iD, jD, lD, nD, k9, oD, cC, tB, rC, vB, uC, m8, vC, aD, bD⟩ := hR
      rcases csome h with ⟨gD, h⟩ | ⟨gD, h⟩
      ·refine E_cond_true (Eq.trans (show ev _ _ = .bool (d9) from bD) (congrArg Value.bool gD)) ?_
       refine L_loadO (x := .tmp 46) part_EyeThread_0.1 Tryd.isAgg3 Tryd.sizeOf3 vB fun yI qH eG => ?_
       obtain rfl := RV_int.1 qH
       obtain ⟨m7, gG, h⟩ := bsome h
       refine L_loadO0 (x := .tmp 10) Tryd.isAgg231 Tryd.sizeOf231 vB fun cF yD hG => ?_
       refine E_drawAS (g := zE) (w := jH) (i := 1002) (et := 3) (xs := (n8 : List Int)) (r := m7) (u := x8) jD lD (n := 10) [(3, (fun v g w => RV g.m w ([(t5).warp] : List Int) v ∧ OS 3048 g w 3 ([(t5).warp] : List Int) v ∧ FullV v)), (4, (fun v g w => RV g.m w m7 v ∧ OS 1002 g w 3 m7 v))] [0, 1, 2, 3, 4, 5, 6, 7, 8, 9] rfl mixed (by kernel_rfl) (⟨fun _ => up_and upS_rv (up_and upS_os (upS_eq _)), fun _ => up_as, trivial⟩) ?_
       refine L_p x8 rfl rfl (P_move iD) ?_
       refine L_p (fPtr vD 0) rfl rfl (P_fieldAddr at_231_0 rC (OB.ptr vB)) ?_
       refine L_ld (c := .int .i64 ((t5).warp)) rfl rfl .plain (fun _ _ h => ⟨h.1.ch, fun b hb ho => h.1.block b hb (by rw [ho]; decide)⟩) eG rfl ?_
       refine L_do (φ := fun v g w => RV g.m w ([(t5).warp] : List Int) v ∧ OS 3048 g w 3 ([(t5).warp] : List Int) v ∧ FullV v) rfl rfl .plain (fun g w hd => D_buildSlice (g := g) 3048 (xs := ([(t5).warp] : List Int)) (vs := [.int .i64 ((t5).warp)]) Tryd.underlying34 Tryd.sizeOf3 Tryd.zeroValue3 rfl rfl (.cons rfl .nil) (RVs.cons (RV_int.2 rfl) RVs.nil) rfl rfl fun g' w' v hs o r hxt hfl => ⟨g', as_ext hxt, r, o, hfl⟩) (fun n9 hv => ?_)
       clear hv
       refine L_do (φ := fun v g w => RV g.m w m7 v ∧ OS 1002 g w 3 m7 v) rfl rfl .plain (fun g w hd => D_appendS (g := g) det_int rfl Tryd.underlying34 info_3 rfl rfl hd.1.2 rfl (word (A := fun g w => RV g.m w ([(t5).warp] : List Int) n9 ∧ OS 3048 g w 3 ([(t5).warp] : List Int) n9 ∧ FullV n9) 3 rfl rfl (deps_of hd)).1 gG) (fun a9 hv => ?_)
       clear hv
       refine L_p (.int .i64 (o0)) rfl rfl (P_move oD) ?_
       refine L_p (.int .i64 ((w64 (o0 - (1 : Int))))) rfl rfl (P_int rfl rfl rfl) ?_
       refine L_ld (c := cF) rfl rfl .plain (fun _ _ h => ⟨h.1.ch, fun b hb ho => h.1.block b hb (by rw [ho]; decide)⟩) hG rC ?_
       refine L_p a9 rfl rfl (P_assign rfl) ?_
       refine L_p (.int .i64 ((w64 (o0 - (1 : Int))))) rfl rfl (P_assign rfl) ?_
       refine L_nil fun sH zI hall => ?_
       have hs := hall.1.1
       have hfr := hfr.stp hs
       have k9 := k9.stp hs
       have tB := tB.stp hs rfl
       have m8 := m8.stp hs
       have yD := yD.stp hs
       have zD := (word_all (A := fun g w => RV g.m w m7 a9 ∧ OS 1002 g w 3 m7 a9) 4 rfl hall).1
       have o228 := (word_all (A := fun g w => RV g.m w m7 a9 ∧ OS 1002 g w 3 m7 a9) 4 rfl hall).2
       have eJ := (word_all (A := fun g w => RV g.m w ([(t5).warp] : List Int) n9 ∧ OS 3048 g w 3 ([(t5).warp] : List Int) n9 ∧ FullV n9) 3 rfl hall).1
       have o240 := (word_all (A := fun g w => RV g.m w ([(t5).warp] : List Int) n9 ∧ OS 3048 g w 3 ([(t5).warp] : List Int) n9 ∧ FullV n9) 3 rfl hall).2.1
       have gJ := (word_all (A := fun g w => RV g.m w m7 a9 ∧ OS 1002 g w 3 m7 a9) 4 rfl hall).1
       have o241 := (word_all (A := fun g w => RV g.m w m7 a9 ∧ OS 1002 g w 3 m7 a9) 4 rfl hall).2
       clear hs hall
       refine EL_do .plain rfl (D_storeOc (g := sH) (v := cF) Tryd.sizeOf231 cC tB rfl yD fun tH iJ hs b245 cb => ?_)
       clear cb
       have hfr := hfr.stp hs
       have zD := zD.stp hs
       have o228 := o228.stp hs rfl
       have k9 := k9.stp hs
       have m8 := m8.stp hs
       refine EL_nil (blk_n ?_)
       obtain ⟨rfl, rfl, rfl⟩ := pairs3 h
       exact hQ _ _ ⟨tH, (a9), hfr, rfl, zD, o228, nD, k9, rfl, cC, b245, uC, m8, vC, aD⟩
      ·refine E_cond_false (Eq.trans (show ev _ _ = .bool (d9) from bD) (congrArg Value.bool gD)) ?_
       refine E_skip (blk_n ?_)
       obtain ⟨rfl, rfl, rfl⟩ := pairs3 h
       exact hQ _ _ ⟨zE, (x8), hfr, iD, jD, lD, nD, k9, oD, cC, tB, uC, m8, vC, aD⟩
    ·clear hx
     obtain ⟨uH, dF, hfr, eF, rF, sF, tF, uF, vF, xF, yF, lE, mE, oE, rE⟩ := hR
     refine E_region (EL_in (.int .i64 ((w64 (u3 + (1 : Int))))) rE rfl rfl rfl ?_)
     refine EL_mw (.int .i64 ((w64 (u3 + (1 : Int))))) rfl rfl ?_
     exact EL_nil (thn_n (bG (y9, dB, iB, (w64 (u3 + (1 : Int)))) _ _ ⟨uH, (dF), hfr, eF, rF, sF, tF, uF, vF, xF, yF, lE, mE, oE, rfl⟩ h))
   ·refine E_cf cD rfl ?_
    refine E_exit ?_
    refine thn_e ?_
    refine thn_e ?_
    refine blk_hit ?_
    obtain rfl := sinj h
    exact hQ _ _ ⟨tD, (x8), hfr, mB, i6, x6⟩
  ·clear hx
   obtain ⟨jJ, sD, hfr, zF, aG, bI⟩ := hR
   refine E_seq (E_region (EL_mv zF rfl ?_))
   refine EL_at sD rfl rfl ?_
   refine EL_at (.int .i64 (0)) rfl rfl ?_
   refine EL_nil (thn_n (E_ret ?_))
   obtain rfl := sinj h
   exact end2 rfl rfl (show _ = sD from rfl) (show _ = .int .i64 (0) from rfl) ⟨_, hfr, _, _, rfl, aG, rfl⟩
def f103 (x0 : List Str) (x1 : Int) : Option (Int) :=
 jn (σ := Unit) (fun _ =>
  some ((0 : Int))
  ) fun i7 =>
 bif (decide (((x0).length : Int) > (60 : Int))) then
  some ((5 : Int))
 else
  bif (((x0).length : Int) == (0 : Int)) then
   some ((7 : Int))
  else
   Option.bind (α := Bool) (
    (f98 ((1 : Int)) ((96 : Int)) (([x1] : List Int))).bind fun u3 =>
    bif (!u3) then
     some ((!u3))
    else
     (f125 x0 ((fun a0 => f156 a0 x1))).bind fun y6 =>
     some (y6)
    ) fun o0 =>
   bif o0 then
    some ((4 : Int))
   else
    i7 ()
theorem en103 : Enters Tryd.prog 103 := enters_of Tryd.func103 (by kernel_rfl) rfl
theorem wk103 {gI : Gh} {wI : World} {x0 : List Str} {x1 : Int} {up0 : Value} (rp0 : RV gI.m wI x0 up0) {r : Int} (h : f103 x0 x1 = some r) : Fn Tryd.prog 103 #[up0, .int .i64 (x1)] gI wI (fun _ _ v => v = .int .i64 (r)) := by
 unfold f103 at h
 refine fn_of_E Tryd.func103 rfl (Nat.le_of_ble_eq_true rfl) fun g0 hm hfr => ?_
 have rp0 : RV g0.m wI x0 up0 := hm ▸ rp0
 show E _ 23 none _ _ _ _ _
 refine E_seq (E_region (EL_do .plain rfl (D_box (g := g0) rfl (RV_int.2 rfl) fun g1 w1 p1 hs q1 => ?_)))
 have hfr := hfr.ext hs
 have rp0 := rp0.ext hs
 refine EL_at (.int .i64 (0)) rfl rfl ?_
 refine EL_nil (thn_n (E_seq (E_region (EL_p ((.func (.func 156) #[] #[p1])) (P_makeFunc (capf_0_1 (show ev _ _ = p1 from rfl))) rfl ?_))))
 refine EL_at ((.func (.func 156) #[] #[p1])) rfl rfl ?_
 refine EL_nil (thn_n (E_joinC h (fun (s : Unit) e w => ∃ (g : Gh) , Fr gI wI g w) (fun X20 i7 g8 h => ?_) ?_))
 ·refine E_block ?_
  refine E_seq (E_region (EL_mw up0 rfl rfl ?_))
  refine EL_p (.int .i64 ((x0).length : Int)) (P_len Tryd.underlying57 rfl rp0) rfl ?_
  refine EL_in (.bool ((decide (((x0).length : Int) > (60 : Int))))) rfl rfl rfl rfl ?_
  refine EL_at (.bool ((decide (((x0).length : Int) > (60 : Int))))) rfl rfl ?_
  refine EL_nil (thn_n ?_)
  rcases csome h with ⟨t5, h⟩ | ⟨t5, h⟩
  ·refine E_ct t5 rfl ?_
   refine E_seq (E_region (EL_at (.int .i64 (5)) rfl rfl ?_))
   refine EL_nil (thn_n (E_ret (blk_r ?_)))
   refine thn_r ?_
   obtain rfl := sinj h
   exact end1 rfl rfl (show _ = .int .i64 (5) from rfl) ⟨_, hfr, rfl⟩
  ·refine E_cf t5 rfl ?_
   refine E_seq (E_region (EL_mw up0 rfl rfl ?_))
   refine EL_p (.int .i64 ((x0).length : Int)) (P_len Tryd.underlying57 rfl rp0) rfl ?_
   refine EL_in (.bool ((((x0).length : Int) == (0 : Int)))) rfl rfl rfl rfl ?_
   refine EL_at (.bool ((((x0).length : Int) == (0 : Int)))) rfl rfl ?_
   refine EL_nil (thn_n ?_)
   rcases csome h with ⟨x5, h⟩ | ⟨x5, h⟩
   ·refine E_ct x5 rfl ?_
    refine E_seq (E_region (EL_at (.int .i64 (7)) rfl rfl ?_))
    refine EL_nil (thn_n (E_ret (blk_r ?_)))
    refine thn_r ?_
    obtain rfl := sinj h
    exact end1 rfl rfl (show _ = .int .i64 (7) from rfl) ⟨_, hfr, rfl⟩
   ·refine E_cf x5 rfl ?_
    obtain ⟨o0, hx, h⟩ := bsome h
    refine E_join (fun e w => ∃ (g : Gh) , Fr gI wI g w ∧ e 15 = .bool (o0)) (fun Q' hQ => ?_) (fun d9 u9 hR => ?_)
    ·replace h := hx
     clear hx
     refine E_seq (E_region (EL_do .plain rfl (D_load (g := g1) Tryd.isAgg3 Tryd.sizeOf3 rfl q1 fun y9 m8 => ?_)))
     obtain rfl := RV_int.1 m8
     refine EL_do .plain rfl (D_buildSlice (g := g1) 3017 (xs := ([x1] : List Int)) (vs := [.int .i64 (x1)]) Tryd.underlying34 Tryd.sizeOf3 Tryd.zeroValue3 rfl rfl (.cons rfl .nil) (RVs.cons (RV_int.2 rfl) RVs.nil) rfl rfl fun n8 z9 r8 hs o31 v8 hxt hfl => ?_)
     have hfr := hfr.stp hs
     have rp0 := rp0.stp hs
     have q1 := q1.stp hs
     obtain ⟨u3, k8, h⟩ := bsome h
     refine EL_do .plain rfl (D_call (g := n8) (vs := [.int .i64 (1), .int .i64 (96), r8]) en98 (.cons rfl (.cons rfl (.cons rfl .nil))) (wk98 v8 k8) fun m7 k9 bA hs hr => ?_)
     have hfr := hfr.ext hs
     have rp0 := rp0.ext hs
     have q1 := q1.ext hs
     subst hr
     refine EL_p (.bool (!u3)) (P_not rfl) rfl ?_
     refine EL_at (.bool (!u3)) rfl rfl ?_
     refine EL_nil (thn_n ?_)
     rcases csome h with ⟨i6, h⟩ | ⟨i6, h⟩
     ·refine E_ct i6 rfl ?_
      refine E_skip ?_
      obtain rfl := sinj h
      exact hQ _ _ ⟨m7, hfr, rfl⟩
     ·refine E_cf i6 rfl ?_
      refine E_region (EL_mw up0 rfl rfl ?_)
      refine EL_mw ((.func (.func 156) #[] #[p1])) rfl rfl ?_
      obtain ⟨y6, l8, h⟩ := bsome h
      refine EL_do .plain rfl (D_call (g := m7) (vs := [up0, (.func (.func 156) #[] #[p1])]) en125 (.cons rfl (.cons rfl .nil)) (wk125 rp0 ⟨156, #[], #[p1], rfl, en156, fun g' w' hch a0 b0 r hu0 hr => by obtain rfl := RV_str.1 hu0; exact Fn.mono (wk156  (q1.ch hch) hr) fun _ _ _ h => RV_bool.2 h⟩ l8) fun x8 l9 iA hs hr => ?_)
      have hfr := hfr.ext hs
      subst hr
      refine EL_at (.bool (y6)) rfl rfl ?_
      refine EL_nil ?_
      obtain rfl := sinj h
      exact hQ _ _ ⟨x8, hfr, rfl⟩
    ·clear hx
     obtain ⟨a9, hfr, l5⟩ := hR
     rcases csome h with ⟨x6, h⟩ | ⟨x6, h⟩
     ·refine E_cond_true (Eq.trans (show ev _ _ = .bool (o0) from l5) (congrArg Value.bool x6)) ?_
      refine E_seq (E_region (EL_at (.int .i64 (4)) rfl rfl ?_))
      refine EL_nil (thn_n (E_ret (blk_r ?_)))
      refine thn_r ?_
      obtain rfl := sinj h
      exact end1 rfl rfl (show _ = .int .i64 (4) from rfl) ⟨_, hfr, rfl⟩
     ·refine E_cond_false (Eq.trans (show ev _ _ = .bool (o0) from l5) (congrArg Value.bool x6)) ?_
      exact E_skip (blk_n (thn_n (g8 () _ _ ⟨a9, hfr⟩ h)))
 ·rintro _ n9 rA ⟨yA, hfr⟩ h
  refine E_seq (E_region (EL_at (.int .i64 (0)) rfl rfl ?_))
  refine EL_nil (thn_n (E_ret ?_))
  obtain rfl := sinj h
  exact end1 rfl rfl (show _ = .int .i64 (0) from rfl) ⟨_, hfr, rfl⟩
def f111 (x0 : TieTieGroup) : Option ((List Int)) :=
 (f163 (((x0).TieGroup).First) (((x0).TieGroup).Last)).bind fun y9 =>
 (f162 y9).bind fun y11 =>
 Option.bind (α := (List Int)) (
  bif (((x0).TieGroup).Way == (2 : Int)) then
   lp (σ := (List Int) × Int) (fun iB (u3, o0) =>
    jn (σ := Unit) (fun _ =>
     Option.bind (α := (List Int)) (
      (idx u3 o0).bind fun m7 =>
      (apnd 8 u3 (([m7] : List Int))).bind fun y56 =>
      some (y56)
      ) fun l5 =>
     iB (l5, (w64 (o0 - (1 : Int))))
     ) fun lB =>
    bif (decide (o0 > (0 : Int))) then
     lB ()
    else
     some (u3)
    ) big (y11, (w64 (((y11).length : Int) - (2 : Int))))
  else
   some (y11)
  ) fun i6 =>
 some (i6)
theorem en111 : Enters Tryd.prog 111 := enters_of Tryd.func111 (by kernel_rfl) rfl
theorem wk111 {gI : Gh} {wI : World} {x0 : TieTieGroup} {up0 : Value} (rp0 : RV gI.m wI x0 up0) {r : (List Int)} (h : f111 x0 = some r) : Fn Tryd.prog 111 #[up0] gI wI (fun m w v => RV m w (r) v) := by
 unfold f111 at h
 refine fn_of_E Tryd.func111 rfl (Nat.le_of_ble_eq_true rfl) fun g0 hm hfr => ?_
 have rp0 : RV g0.m wI x0 up0 := hm ▸ rp0
 show E _ 32 none _ _ _ _ _
 refine E_seq (E_region (EL_do .plain rfl (D_box (g := g0) rfl rp0 fun g1 w1 p1 hs q1 => ?_)))
 have hfr := hfr.ext hs
 refine EL_at (.slice none 0 0) rfl rfl ?_
 refine EL_nil (thn_n (E_seq (E_region (EL_p (fPtr p1 0) (P_fieldAddr at_218_0 rfl (PT.ptr q1)) rfl ?_))))
 have q2 := PT_field (part_TieTieGroup_0).1 q1
 refine EL_p (fPtr (fPtr p1 0) 0) (P_fieldAddr at_148_0 rfl (PT.ptr q2)) rfl ?_
 have q3 := PT_field (part_TieGroup_0).1 q2
 refine EL_do .plain rfl (D_load (g := g1) Tryd.isAgg3 Tryd.sizeOf3 rfl q3 fun v4 r4 => ?_)
 obtain rfl := RV_int.1 r4
 refine EL_p (fPtr p1 0) (P_fieldAddr at_218_0 rfl (PT.ptr q1)) rfl ?_
 have q5 := PT_field (part_TieTieGroup_0).1 q1
 refine EL_p (fPtr (fPtr p1 0) 1) (P_fieldAddr at_148_1 rfl (PT.ptr q5)) rfl ?_
 have q6 := PT_field (part_TieGroup_1).1 q5
 refine EL_do .plain rfl (D_load (g := g1) Tryd.isAgg3 Tryd.sizeOf3 rfl q6 fun v7 r7 => ?_)
 obtain rfl := RV_int.1 r7
 obtain ⟨y9, mC, h⟩ := bsome h
 refine EL_do .plain rfl (D_call (g := g1) (vs := [.int .i64 (((x0).TieGroup).First), .int .i64 (((x0).TieGroup).Last)]) en163 (.cons rfl (.cons rfl .nil)) (wk163  mC) fun g8 w8_ v8 hs hr => ?_)
 have hfr := hfr.ext hs
 have q1 := q1.ext hs
 have r8 := hr
 obtain ⟨y11, vB, h⟩ := bsome h
 refine EL_do .plain rfl (D_callG (g := g8) (vs := [v8]) en162 (.cons rfl .nil) (u162 (iO := 4012) r8 vB) fun l9 sD k8 hs m10 => ?_)
 obtain ⟨o10, n9⟩ := m10
 have hfr := hfr.ext hs
 have q1 := q1.ext hs
 refine EL_at k8 rfl rfl ?_
 refine EL_nil (thn_n ?_)
 obtain ⟨i6, hx, h⟩ := bsome h
 refine E_join (fun e w => ∃ (g : Gh) (v3 : Value), Fr gI wI g w ∧ e 3 = v3 ∧ RV g.m w (i6 : List Int) v3 ∧ OS 4012 g w 3 (i6 : List Int) v3) (fun Q' hQ => ?_) (fun jD tD hR => ?_)
 ·replace h := hx
  clear hx
  refine E_seq (E_region (EL_p (fPtr p1 0) (P_fieldAddr at_218_0 rfl (PT.ptr q1)) rfl ?_))
  have mB := PT_field (part_TieTieGroup_0).1 q1
  refine EL_p (fPtr (fPtr p1 0) 2) (P_fieldAddr at_148_2 rfl (PT.ptr mB)) rfl ?_
  have qC := PT_field (part_TieGroup_2).1 mB
  refine EL_do .plain rfl (D_load (g := l9) Tryd.isAgg146 Tryd.sizeOf146 rfl qC fun uD rC => ?_)
  obtain rfl := RV_int.1 rC
  refine EL_in (.bool ((((x0).TieGroup).Way == (2 : Int)))) rfl rfl rfl rfl ?_
  refine EL_nil (thn_n ?_)
  rcases csome h with ⟨y6, h⟩ | ⟨y6, h⟩
  ·refine E_ct y6 rfl ?_
   refine E_seq (E_region (EL_mw k8 rfl rfl ?_))
   refine EL_p (.int .i64 ((y11).length : Int)) (P_len Tryd.underlying34 rfl n9) rfl ?_
   refine EL_in (.int .i64 ((w64 (((y11).length : Int) - (2 : Int))))) rfl rfl rfl rfl ?_
   refine EL_at (.int .i64 ((w64 (((y11).length : Int) - (2 : Int))))) rfl rfl ?_
   refine EL_nil (thn_n (E_block ?_))
   refine E_lp h (fun (s : (List Int) × Int) e w => ∃ (g : Gh) (v3 : Value), Fr gI wI g w ∧ e 3 = v3 ∧ RV g.m w (s.1 : List Int) v3 ∧ OS 4012 g w 3 (s.1 : List Int) v3 ∧ e 4 = .int .i64 (s.2)) ⟨l9, (k8), hfr, rfl, n9, o10, rfl⟩ (fun X39 iB yB => ?_)
   rintro ⟨u3, o0⟩ lD vD ⟨nB, t5, hfr, l8, m8, n8, x8⟩ h
   refine E_joinC h (fun (s : Unit) e w => ∃ (g : Gh) , Fr gI wI g w ∧ e 3 = t5 ∧ RV g.m w (u3 : List Int) t5 ∧ OS 4012 g w 3 (u3 : List Int) t5 ∧ e 4 = .int .i64 (o0)) (fun X42 lB zB h => ?_) ?_
   ·refine E_seq (E_region (EL_mv x8 rfl ?_))
    refine EL_in (.bool ((decide (o0 > (0 : Int))))) rfl rfl rfl rfl ?_
    refine EL_nil (thn_n ?_)
    rcases csome h with ⟨i7, h⟩ | ⟨i7, h⟩
    ·refine E_ct i7 rfl ?_
     exact E_skip (thn_n (zB () _ _ ⟨nB, hfr, l8, m8, n8, x8⟩ h))
    ·refine E_cf i7 rfl ?_
     refine E_exit ?_
     refine thn_e ?_
     refine thn_e ?_
     refine blk_hit ?_
     obtain rfl := sinj h
     exact hQ _ _ ⟨nB, (t5), hfr, l8, m8, n8⟩
   ·rintro _ nD xD ⟨oB, hfr, a9, x5, x6, d9⟩ h
    obtain ⟨l5, hx, h⟩ := bsome h
    refine E_join (fun e w => ∃ (g : Gh) (v3 : Value), Fr gI wI g w ∧ e 3 = v3 ∧ RV g.m w (l5 : List Int) v3 ∧ OS 4012 g w 3 (l5 : List Int) v3 ∧ e 4 = .int .i64 (o0)) (fun Q' hQ => ?_) (fun oD yD hR => ?_)
    ·replace h := hx
     clear hx
     refine E_block ?_
     refine E_region (EL_mv a9 rfl ?_)
     refine EL_mv a9 rfl ?_
     refine EL_mv d9 rfl ?_
     obtain ⟨m7, u9, h⟩ := bsome h
     refine EL_p (ePtr t5 o0 1) (P_indexAddr (α := Int) Tryd.underlying34 Tryd.sizeOf3 rfl x5 rfl u9) rfl ?_
     have uC := PT_idx x5 u9
     refine EL_do .plain rfl (D_load (g := oB) Tryd.isAgg3 Tryd.sizeOf3 rfl uC fun zD vC => ?_)
     obtain rfl := RV_int.1 vC
     refine EL_do .plain rfl (D_buildSlice (g := oB) 3029 (xs := ([m7] : List Int)) (vs := [.int .i64 (m7)]) Tryd.underlying34 Tryd.sizeOf3 Tryd.zeroValue3 rfl rfl (.cons rfl .nil) (RVs.cons (RV_int.2 rfl) RVs.nil) rfl rfl fun aD aE bE hs o54 bD hxt hfl => ?_)
     have hfr := hfr.stp hs
     have x5 := x5.stp hs
     have x6 := x6.stp hs rfl
     obtain ⟨y56, cC, h⟩ := bsome h
     refine EL_do .plain rfl (D_append (g := aD) (i := 4012) Tryd.underlying34 info_3 rfl rfl x6 x5 rfl bD cC fun cD iE tB hs o55 eD _ => ?_)
     have hfr := hfr.stp hs
     refine EL_at tB rfl rfl ?_
     refine EL_nil (blk_n ?_)
     obtain rfl := sinj h
     exact hQ _ _ ⟨cD, (tB), hfr, rfl, eD, o55, d9⟩
    ·clear hx
     obtain ⟨gD, z9, hfr, bA, iA, rA, yA⟩ := hR
     refine E_region (EL_mv yA rfl ?_)
     refine EL_in (.int .i64 ((w64 (o0 - (1 : Int))))) rfl rfl rfl rfl ?_
     refine EL_at (.int .i64 ((w64 (o0 - (1 : Int))))) rfl rfl ?_
     exact EL_nil (thn_n (yB (l5, (w64 (o0 - (1 : Int)))) _ _ ⟨gD, (z9), hfr, bA, iA, rA, rfl⟩ h))
  ·refine E_cf y6 rfl ?_
   refine E_skip ?_
   obtain rfl := sinj h
   exact hQ _ _ ⟨l9, (k8), hfr, rfl, n9, o10⟩
 ·clear hx
  obtain ⟨lE, k9, hfr, aB, dB, iD⟩ := hR
  refine E_seq (E_region (EL_mv aB rfl ?_))
  refine EL_at k9 rfl rfl ?_
  refine EL_nil (thn_n (E_ret ?_))
  obtain rfl := sinj h
  exact end1 rfl rfl (show _ = k9 from rfl) ⟨_, hfr, dB⟩
def f15 (x0 : TieHarness) (x1 : Design) : Option ((List Str) × Int) :=
 jn (σ := (List Str)) (fun l8 =>
  jn (σ := (List Str)) (fun rA =>
   Option.bind (α := (List Str)) (
    lp (σ := (List Str) × Int) (fun uD (m8, o0) =>
     bif (decide (o0 < (((x1).Rows).length : Int))) then
      Option.bind (α := (List Str)) (
       (idx ((x1).Rows) o0).bind fun d9 =>
       (f53 ((⟨x0⟩ : TieTieHarness)) d9).bind fun y81 =>
       (apnd 16 m8 (([y81] : List Str))).bind fun y84 =>
       some (y84)
       ) fun y6 =>
      uD (y6, (w64 (o0 + (1 : Int))))
     else
      some (m8)
     ) big (rA, (0 : Int))
    ) fun g8 =>
   some (g8, (0 : Int))
   ) fun vD =>
  (f52 x1).bind fun x6 =>
  bif (x6 != (0 : Int)) then
   some ([], x6)
  else
   bif ((x1).Hooks != (x0).Hooks) then
    some ([], (4 : Int))
   else
    vD (l8)
  ) fun k7 =>
 (f51 x0).bind fun i7 =>
 bif (i7 != (0 : Int)) then
  some ([], i7)
 else
  k7 ([])
theorem en15 : Enters Tryd.prog 15 := enters_of Tryd.func15 (by kernel_rfl) rfl
theorem wk15 {gI : Gh} {wI : World} {x0 : TieHarness} {x1 : Design} {up0 : Value} (rp0 : RV gI.m wI x0 up0) {up1 : Value} (rp1 : RV gI.m wI x1 up1) {r : (List Str) × Int} (h : f15 x0 x1 = some r) : Fn Tryd.prog 15 #[up0, up1] gI wI (fun m w v => ∃ y0 y1, v = .tuple #[y0, y1] ∧ RV m w (r.1) y0 ∧ y1 = .int .i64 (r.2)) := by
 unfold f15 at h
 refine fn_of_E Tryd.func15 rfl (Nat.le_of_ble_eq_true rfl) fun g0 hm hfr => ?_
 have rp0 : RV g0.m wI x0 up0 := hm ▸ rp0
 have rp1 : RV g0.m wI x1 up1 := hm ▸ rp1
 show E _ 43 none _ _ _ _ _
 refine E_seq (E_region (EL_do .plain rfl (D_box (g := g0) rfl rp0 fun g1 w1 p1 hs q1 => ?_)))
 have hfr := hfr.ext hs
 have rp1 := rp1.ext hs
 refine EL_do .plain rfl (D_box (g := g1) rfl rp1 fun g2 w2 p2 hs q2 => ?_)
 have hfr := hfr.ext hs
 have q1 := q1.ext hs
 refine EL_at (.slice none 0 0) rfl rfl ?_
 refine EL_at (.int .i64 (0)) rfl rfl ?_
 refine EL_nil (thn_n (E_joinC h (fun (s : (List Str)) e w => ∃ (g : Gh) (v4 : Value), Fr gI wI g w ∧ e 2 = p1 ∧ PT g.m w (x0 : TieHarness) p1 ∧ e 3 = p2 ∧ PT g.m w (x1 : Design) p2 ∧ e 4 = v4 ∧ RV g.m w (s : List Str) v4 ∧ OS 1004 g w 9 (s : List Str) v4) (fun X7 k7 hk7 h => ?_) ?_))
 ·refine E_seq (E_region (EL_do .plain rfl (D_load (g := g2) Tryd.isAgg52 Tryd.sizeOf52 rfl q1 fun v8 r8 => ?_)))
  obtain ⟨i7, mE, h⟩ := bsome h
  refine EL_do .plain rfl (D_call (g := g2) (vs := [v8]) en51 (.cons rfl .nil) (wk51 r8 mE) fun g9 w9_ v9 hs hr => ?_)
  have hfr := hfr.ext hs
  have q1 := q1.ext hs
  have q2 := q2.ext hs
  subst hr
  refine EL_at (.int .i64 (i7)) rfl rfl ?_
  refine EL_nil (thn_n (E_seq (E_region (EL_mw (.int .i64 (i7)) rfl rfl ?_))))
  refine EL_in (.bool ((i7 != (0 : Int)))) rfl rfl rfl rfl ?_
  refine EL_nil (thn_n ?_)
  rcases csome h with ⟨y9, h⟩ | ⟨y9, h⟩
  ·refine E_ct y9 rfl ?_
   refine E_seq (E_region (EL_mw (.int .i64 (i7)) rfl rfl ?_))
   refine EL_at (.slice none 0 0) rfl rfl ?_
   refine EL_at (.int .i64 (i7)) rfl rfl ?_
   refine EL_nil (thn_n (E_ret (thn_r ?_)))
   obtain rfl := sinj h
   exact end2 rfl rfl (show _ = .slice none 0 0 from rfl) (show _ = .int .i64 (i7) from rfl) ⟨_, hfr, _, _, rfl, RV_nil, rfl⟩
  ·refine E_cf y9 rfl ?_
   exact E_skip (thn_n (hk7 ([]) _ _ ⟨g9, (.slice none 0 0), hfr, rfl, q1, rfl, q2, rfl, RV_nil, OS.nil⟩ h))
 ·rintro l8 gG sG ⟨xD, cC, hfr, yA, m7, n8, t5, mC, x8, a9⟩ h
  refine E_joinC h (fun (s : (List Str)) e w => ∃ (g : Gh) (v4 : Value), Fr gI wI g w ∧ e 2 = p1 ∧ PT g.m w (x0 : TieHarness) p1 ∧ e 3 = p2 ∧ PT g.m w (x1 : Design) p2 ∧ e 4 = v4 ∧ RV g.m w (s : List Str) v4 ∧ OS 1004 g w 9 (s : List Str) v4) (fun X22 vD oE h => ?_) ?_
  ·refine E_seq (E_region (EL_do .plain rfl (D_load (g := xD) Tryd.isAgg55 Tryd.sizeOf55 n8 t5 fun zE cF => ?_)))
   obtain ⟨x6, rE, h⟩ := bsome h
   refine EL_do .plain rfl (D_call (g := xD) (vs := [zE]) en52 (.cons rfl .nil) (wk52 cF rE) fun mB hG xG hs hr => ?_)
   have hfr := hfr.ext hs
   have m7 := m7.ext hs
   have t5 := t5.ext hs
   have x8 := x8.ext hs
   have a9 := a9.ext hs
   subst hr
   refine EL_at (.int .i64 (x6)) rfl rfl ?_
   refine EL_nil (thn_n (E_block ?_))
   refine E_seq (E_region (EL_mw (.int .i64 (x6)) rfl rfl ?_))
   refine EL_in (.bool ((x6 != (0 : Int)))) rfl rfl rfl rfl ?_
   refine EL_at (.bool ((x6 != (0 : Int)))) rfl rfl ?_
   refine EL_nil (thn_n ?_)
   rcases csome h with ⟨z9, h⟩ | ⟨z9, h⟩
   ·refine E_ct z9 rfl ?_
    refine E_seq (E_region (EL_mw (.int .i64 (x6)) rfl rfl ?_))
    refine EL_at (.slice none 0 0) rfl rfl ?_
    refine EL_at (.int .i64 (x6)) rfl rfl ?_
    refine EL_nil (thn_n (E_ret (blk_r ?_)))
    refine thn_r ?_
    obtain rfl := sinj h
    exact end2 rfl rfl (show _ = .slice none 0 0 from rfl) (show _ = .int .i64 (x6) from rfl) ⟨_, hfr, _, _, rfl, RV_nil, rfl⟩
   ·refine E_cf z9 rfl ?_
    refine E_seq (E_region (EL_p (fPtr p2 0) (P_fieldAddr at_55_0 n8 (PT.ptr t5)) rfl ?_))
    have dF := PT_field (part_Design_0).1 t5
    refine EL_do .plain rfl (D_load (g := mB) Tryd.isAgg3 Tryd.sizeOf3 rfl dF fun yG eF => ?_)
    obtain rfl := RV_int.1 eF
    refine EL_p (fPtr p1 0) (P_fieldAddr at_52_0 yA (PT.ptr m7)) rfl ?_
    have rF := PT_field (part_TieHarness_0).1 m7
    refine EL_do .plain rfl (D_load (g := mB) Tryd.isAgg3 Tryd.sizeOf3 rfl rF fun zG sF => ?_)
    obtain rfl := RV_int.1 sF
    refine EL_in (.bool (((x1).Hooks != (x0).Hooks))) rfl rfl rfl rfl ?_
    refine EL_at (.bool (((x1).Hooks != (x0).Hooks))) rfl rfl ?_
    refine EL_nil (thn_n ?_)
    rcases csome h with ⟨bA, h⟩ | ⟨bA, h⟩
    ·refine E_ct bA rfl ?_
     refine E_seq (E_region (EL_at (.slice none 0 0) rfl rfl ?_))
     refine EL_at (.int .i64 (4)) rfl rfl ?_
     refine EL_nil (thn_n (E_ret (blk_r ?_)))
     refine thn_r ?_
     obtain rfl := sinj h
     exact end2 rfl rfl (show _ = .slice none 0 0 from rfl) (show _ = .int .i64 (4) from rfl) ⟨_, hfr, _, _, rfl, RV_nil, rfl⟩
    ·refine E_cf bA rfl ?_
     exact E_skip (blk_n (thn_n (oE (l8) _ _ ⟨mB, (cC), hfr, yA, m7, n8, t5, mC, x8, a9⟩ h)))
  ·rintro rA iG aH ⟨yD, qC, hfr, rC, uC, vC, aB, aD, bD, cD⟩ h
   obtain ⟨g8, hx, h⟩ := bsome h
   refine E_join (fun e w => ∃ (g : Gh) (v4 : Value), Fr gI wI g w ∧ e 4 = v4 ∧ RV g.m w (g8 : List Str) v4 ∧ OS 1004 g w 9 (g8 : List Str) v4) (fun Q' hQ => ?_) (fun jG cH hR => ?_)
   ·replace h := hx
    clear hx
    refine E_seq (E_region (EL_p (fPtr p2 1) (P_fieldAddr at_55_1 vC (PT.ptr aB)) rfl ?_))
    have tF := PT_field (part_Design_1).1 aB
    refine EL_do .plain rfl (D_load (g := yD) Tryd.isAgg34 Tryd.sizeOf34 rfl tF fun k9 zD => ?_)
    refine EL_p (.int .i64 (((x1).Rows).length : Int)) (P_len Tryd.underlying34 rfl zD) rfl ?_
    refine EL_mw (.int .i64 (0)) rfl rfl ?_
    refine EL_nil (thn_n (E_block ?_))
    refine E_lp h (fun (s : (List Str) × Int) e w => ∃ (g : Gh) (v4 : Value), Fr gI wI g w ∧ e 2 = p1 ∧ PT g.m w (x0 : TieHarness) p1 ∧ e 4 = v4 ∧ RV g.m w (s.1 : List Str) v4 ∧ OS 1004 g w 9 (s.1 : List Str) v4 ∧ e 28 = k9 ∧ RV g.m w ((x1).Rows : List Int) k9 ∧ e 29 = .int .i64 ((((x1).Rows).length : Int)) ∧ e 30 = .int .i64 (s.2)) ⟨yD, (qC), hfr, rC, uC, aD, bD, cD, rfl, zD, rfl, rfl⟩ (fun X61 uD uE => ?_)
    rintro ⟨m8, o0⟩ kG dH ⟨l9, eD, hfr, dB, l5, iB, x5, i6, n9, u3, u9, k8⟩ h
    refine E_seq (E_region (EL_p (.bool ((decide (o0 < (((x1).Rows).length : Int))))) (P_int k8 u9 rfl) rfl ?_))
    refine EL_nil (thn_n (E_seq ?_))
    rcases csome h with ⟨iA, h⟩ | ⟨iA, h⟩
    ·refine E_ct iA rfl ?_
     refine E_skip (thn_n ?_)
     obtain ⟨y6, hx, h⟩ := bsome h
     refine E_join (fun e w => ∃ (g : Gh) (v4 : Value), Fr gI wI g w ∧ e 2 = p1 ∧ PT g.m w (x0 : TieHarness) p1 ∧ e 4 = v4 ∧ RV g.m w (y6 : List Str) v4 ∧ OS 1004 g w 9 (y6 : List Str) v4 ∧ e 28 = k9 ∧ RV g.m w ((x1).Rows : List Int) k9 ∧ e 29 = .int .i64 ((((x1).Rows).length : Int)) ∧ e 30 = .int .i64 (o0)) (fun Q' hQ => ?_) (fun lG gH hR => ?_)
     ·replace h := hx
      clear hx
      refine E_block ?_
      refine E_seq (E_region ?_)
      obtain ⟨d9, nB, h⟩ := bsome h
      refine EL_p (ePtr k9 o0 1) (P_indexAddr (α := Int) Tryd.underlying34 Tryd.sizeOf3 n9 u3 k8 nB) rfl ?_
      have uF := PT_idx u3 nB
      refine EL_do .plain rfl (D_load (g := l9) Tryd.isAgg3 Tryd.sizeOf3 rfl uF fun iH vF => ?_)
      obtain rfl := RV_int.1 vF
      refine EL_at (.int .i64 (d9)) rfl rfl ?_
      refine EL_nil (thn_n (E_region (EL_mv iB rfl ?_)))
      refine EL_do .plain rfl (D_load (g := l9) Tryd.isAgg52 Tryd.sizeOf52 dB l5 fun oB aE => ?_)
      have bE : RV l9.m _ (⟨x0⟩ : TieTieHarness) (.agg (setCh [[.int .i64 0, .slice none 0 0]] [(0, oB)]).flatten.toArray) := RV_build rfl (rep_last (RV.cells aE))
      generalize vE : (Value.agg (setCh [[.int .i64 0, .slice none 0 0]] [(0, oB)]).flatten.toArray) = iE at bE
      refine EL_p iE (vE ▸ P_build (vs := [(0, oB)]) [[.int .i64 0, .slice none 0 0]] lay_129 rfl rfl (.cons rfl .nil) ⟨⟨_, rfl, cells_size aE⟩, trivial⟩) rfl ?_
      refine EL_mw (.int .i64 (d9)) rfl rfl ?_
      obtain ⟨y81, xE, h⟩ := bsome h
      refine EL_do .plain rfl (D_call (g := l9) (vs := [iE, .int .i64 (d9)]) en53 (.cons rfl (.cons rfl .nil)) (wk53 bE xE) fun xF mG jH hs hr => ?_)
      have hfr := hfr.ext hs
      have l5 := l5.ext hs
      have x5 := x5.ext hs
      have i6 := i6.ext hs
      have u3 := u3.ext hs
      subst hr
      refine EL_do .plain rfl (D_buildSlice (g := xF) 3039 (xs := ([y81] : List Str)) (vs := [Str.v (y81)]) Tryd.underlying57 Tryd.sizeOf9 Tryd.zeroValue9 rfl rfl (.cons rfl .nil) (RVs.cons (RV_str.2 rfl) RVs.nil) rfl rfl fun yF kH lH hs o82 zF hxt hfl => ?_)
      have hfr := hfr.stp hs
      have l5 := l5.stp hs
      have x5 := x5.stp hs
      have i6 := i6.stp hs rfl
      have u3 := u3.stp hs
      obtain ⟨y84, yE, h⟩ := bsome h
      refine EL_do .plain rfl (D_append (g := yF) (i := 1004) Tryd.underlying57 info_9 rfl rfl i6 x5 rfl zF yE fun aG mH lE hs o83 bG _ => ?_)
      have hfr := hfr.stp hs
      have l5 := l5.stp hs
      have u3 := u3.stp hs
      refine EL_at lE rfl rfl ?_
      refine EL_nil (blk_n ?_)
      obtain rfl := sinj h
      exact hQ _ _ ⟨aG, (lE), hfr, dB, l5, rfl, bG, o83, n9, u3, u9, k8⟩
     ·clear hx
      obtain ⟨cG, gD, hfr, iD, jD, lD, nD, oD, tB, vB, yB, zB⟩ := hR
      refine E_region (EL_in (.int .i64 ((w64 (o0 + (1 : Int))))) zB rfl rfl rfl ?_)
      refine EL_mw (.int .i64 ((w64 (o0 + (1 : Int))))) rfl rfl ?_
      exact EL_nil (thn_n (uE (y6, (w64 (o0 + (1 : Int)))) _ _ ⟨cG, (gD), hfr, iD, jD, lD, nD, oD, tB, vB, yB, rfl⟩ h))
    ·refine E_cf iA rfl ?_
     refine E_exit ?_
     refine thn_e ?_
     refine thn_e ?_
     refine blk_hit ?_
     obtain rfl := sinj h
     exact hQ _ _ ⟨l9, (eD), hfr, iB, x5, i6⟩
   ·clear hx
    obtain ⟨nH, lB, hfr, sD, tD, eG⟩ := hR
    refine E_seq (E_region (EL_mv sD rfl ?_))
    refine EL_at lB rfl rfl ?_
    refine EL_at (.int .i64 (0)) rfl rfl ?_
    refine EL_nil (thn_n (E_ret ?_))
    obtain rfl := sinj h
    exact end2 rfl rfl (show _ = lB from rfl) (show _ = .int .i64 (0) from rfl) ⟨_, hfr, _, _, rfl, tD, rfl⟩
def f27 (x0 : TieHarness) (x1 : List Int) (x2 : Design) : Option ((List Str) × Int) :=
 jn (σ := (List Str)) (fun rC =>
  (f15 x0 x2).bind fun x5 =>
  jn (σ := (List Str)) (fun vD =>
   Option.bind (α := (List Str)) (
    lp (σ := (List Str) × Int) (fun aG (g8, o0) =>
     bif (decide (o0 < ((x5.1).length : Int))) then
      Option.bind (α := (List Str)) (
       (idx (x5.1) o0).bind fun nB =>
       Option.bind (α := (List UInt8)) (
        lp (σ := (List UInt8) × Int) (fun bG (l9, i6) =>
         bif (decide (i6 < ((x1).length : Int))) then
          Option.bind (α := (List UInt8)) (
           (idx x1 i6).bind fun u9 =>
           bif (u9 == (-1 : Int)) then
            (apnd 1 l9 (([(46 : UInt8)] : List UInt8))).bind fun cG =>
            some (cG)
           else
            (idx (nB).b u9).bind fun oB =>
            (apnd 1 l9 (([oB] : List UInt8))).bind fun eG =>
            some (eG)
           ) fun n8 =>
          bG (n8, (w64 (i6 + (1 : Int))))
         else
          some (l9)
         ) big ([], (0 : Int))
        ) fun m8 =>
       (apnd 16 g8 (([(⟨m8⟩ : Str)] : List Str))).bind fun gG =>
       some (gG)
       ) fun a9 =>
      aG (a9, (w64 (o0 + (1 : Int))))
     else
      some (g8)
     ) big (vD, (0 : Int))
    ) fun y9 =>
   some (y9, (0 : Int))
   ) fun k18 =>
  bif (x5.2 != (0 : Int)) then
   some ([], x5.2)
  else
   k18 (rC)
  ) fun k7 =>
 (f64 x0 x1).bind fun z9 =>
 bif (z9 != (0 : Int)) then
  some ([], z9)
 else
  k7 ([])
theorem en27 : Enters Tryd.prog 27 := enters_of Tryd.func27 (by kernel_rfl) rfl
theorem wk27 {gI : Gh} {wI : World} {x0 : TieHarness} {x1 : List Int} {x2 : Design} {up0 : Value} (rp0 : RV gI.m wI x0 up0) {up1 : Value} (rp1 : RV gI.m wI x1 up1) {up2 : Value} (rp2 : RV gI.m wI x2 up2) {r : (List Str) × Int} (h : f27 x0 x1 x2 = some r) : Fn Tryd.prog 27 #[up0, up1, up2] gI wI (fun m w v => ∃ y0 y1, v = .tuple #[y0, y1] ∧ RV m w (r.1) y0 ∧ y1 = .int .i64 (r.2)) := by
 unfold f27 at h
 refine fn_of_E Tryd.func27 rfl (Nat.le_of_ble_eq_true rfl) fun g0 hm hfr => ?_
 have rp0 : RV g0.m wI x0 up0 := hm ▸ rp0
 have rp1 : RV g0.m wI x1 up1 := hm ▸ rp1
 have rp2 : RV g0.m wI x2 up2 := hm ▸ rp2
 show E _ 61 none _ _ _ _ _
 refine E_seq (E_region (EL_do .plain rfl (D_box (g := g0) rfl rp0 fun g1 w1 p1 hs q1 => ?_)))
 have hfr := hfr.ext hs
 have rp1 := rp1.ext hs
 have rp2 := rp2.ext hs
 refine EL_do .plain rfl (D_box (g := g1) rfl rp2 fun g2 w2 p2 hs q2 => ?_)
 have hfr := hfr.ext hs
 have rp1 := rp1.ext hs
 have q1 := q1.ext hs
 refine EL_at (.slice none 0 0) rfl rfl ?_
 refine EL_at (.int .i64 (0)) rfl rfl ?_
 refine EL_nil (thn_n (E_joinC h (fun (s : (List Str)) e w => ∃ (g : Gh) (v6 : Value), Fr gI wI g w ∧ e 1 = up1 ∧ RV g.m w (x1 : List Int) up1 ∧ e 3 = p1 ∧ PT g.m w (x0 : TieHarness) p1 ∧ e 5 = p2 ∧ PT g.m w (x2 : Design) p2 ∧ e 6 = v6 ∧ RV g.m w (s : List Str) v6 ∧ OS 1006 g w 9 (s : List Str) v6) (fun X7 k7 hk7 h => ?_) ?_))
 ·refine E_seq (E_region (EL_do .plain rfl (D_load (g := g2) Tryd.isAgg52 Tryd.sizeOf52 rfl q1 fun v8 r8 => ?_)))
  refine EL_mw up1 rfl rfl ?_
  obtain ⟨z9, sI, h⟩ := bsome h
  refine EL_do .plain rfl (D_call (g := g2) (vs := [v8, up1]) en64 (.cons rfl (.cons rfl .nil)) (wk64 r8 rp1 sI) fun g9 w9_ v9 hs hr => ?_)
  have hfr := hfr.ext hs
  have rp1 := rp1.ext hs
  have q1 := q1.ext hs
  have q2 := q2.ext hs
  subst hr
  refine EL_at (.int .i64 (z9)) rfl rfl ?_
  refine EL_nil (thn_n (E_seq (E_region (EL_mw (.int .i64 (z9)) rfl rfl ?_))))
  refine EL_in (.bool ((z9 != (0 : Int)))) rfl rfl rfl rfl ?_
  refine EL_nil (thn_n ?_)
  rcases csome h with ⟨sD, h⟩ | ⟨sD, h⟩
  ·refine E_ct sD rfl ?_
   refine E_seq (E_region (EL_mw (.int .i64 (z9)) rfl rfl ?_))
   refine EL_at (.slice none 0 0) rfl rfl ?_
   refine EL_at (.int .i64 (z9)) rfl rfl ?_
   refine EL_nil (thn_n (E_ret (thn_r ?_)))
   obtain rfl := sinj h
   exact end2 rfl rfl (show _ = .slice none 0 0 from rfl) (show _ = .int .i64 (z9) from rfl) ⟨_, hfr, _, _, rfl, RV_nil, rfl⟩
  ·refine E_cf sD rfl ?_
   exact E_skip (thn_n (hk7 ([]) _ _ ⟨g9, (.slice none 0 0), hfr, rfl, rp1, rfl, q1, rfl, q2, rfl, RV_nil, OS.nil⟩ h))
 ·rintro rC yK zL ⟨hG, nH, hfr, oH, uC, pH, qH, sH, tH, uH, vC, aD⟩ h
  refine E_seq (E_region (EL_do .plain rfl (D_load (g := hG) Tryd.isAgg52 Tryd.sizeOf52 pH qH fun bK cK => ?_)))
  refine EL_do .plain rfl (D_load (g := hG) Tryd.isAgg55 Tryd.sizeOf55 sH tH fun dK lK => ?_)
  obtain ⟨x5, tI, h⟩ := bsome h
  refine EL_do .plain rfl (D_call (g := hG) (vs := [bK, dK]) en15 (.cons rfl (.cons rfl .nil)) (wk15 cK lK tI) fun mK zK aM hs hr => ?_)
  have hfr := hfr.ext hs
  have uC := uC.ext hs
  have vC := vC.ext hs
  have aD := aD.ext hs
  obtain ⟨l5, pK, rfl, xH, rfl⟩ := hr
  refine EL_mw (.tuple #[l5, .int .i64 (x5.2)]) rfl rfl ?_
  refine EL_p l5 (P_extract rfl rfl) rfl ?_
  refine EL_p (.int .i64 (x5.2)) (P_extract rfl rfl) rfl ?_
  refine EL_at l5 rfl rfl ?_
  refine EL_at (.int .i64 (x5.2)) rfl rfl ?_
  refine EL_nil (thn_n (E_joinC h (fun (s : (List Str)) e w => ∃ (g : Gh) (v6 : Value), Fr gI wI g w ∧ e 1 = up1 ∧ RV g.m w (x1 : List Int) up1 ∧ e 6 = v6 ∧ RV g.m w (s : List Str) v6 ∧ OS 1006 g w 9 (s : List Str) v6 ∧ e 9 = l5 ∧ RV g.m w (x5.1 : List Str) l5) (fun X18 k18 uI h => ?_) ?_))
  ·refine E_seq (E_region (EL_mw (.int .i64 (x5.2)) rfl rfl ?_))
   refine EL_in (.bool ((x5.2 != (0 : Int)))) rfl rfl rfl rfl ?_
   refine EL_nil (thn_n ?_)
   rcases csome h with ⟨tD, h⟩ | ⟨tD, h⟩
   ·refine E_ct tD rfl ?_
    refine E_seq (E_region (EL_mw (.int .i64 (x5.2)) rfl rfl ?_))
    refine EL_at (.slice none 0 0) rfl rfl ?_
    refine EL_at (.int .i64 (x5.2)) rfl rfl ?_
    refine EL_nil (thn_n (E_ret (thn_r ?_)))
    obtain rfl := sinj h
    exact end2 rfl rfl (show _ = .slice none 0 0 from rfl) (show _ = .int .i64 (x5.2) from rfl) ⟨_, hfr, _, _, rfl, RV_nil, rfl⟩
   ·refine E_cf tD rfl ?_
    exact E_skip (thn_n (uI (rC) _ _ ⟨mK, (nH), hfr, oH, uC, uH, vC, aD, rfl, xH⟩ h))
  ·rintro vD aL bM ⟨nK, yH, hfr, zH, aI, bI, dI, iI, jI, xD⟩ h
   obtain ⟨y9, hx, h⟩ := bsome h
   refine E_join (fun e w => ∃ (g : Gh) (v6 : Value), Fr gI wI g w ∧ e 6 = v6 ∧ RV g.m w (y9 : List Str) v6 ∧ OS 1006 g w 9 (y9 : List Str) v6) (fun Q' hQ => ?_) (fun qK bL hR => ?_)
   ·replace h := hx
    clear hx
    refine E_seq (E_region (EL_mv jI rfl ?_))
    refine EL_p (.int .i64 ((x5.1).length : Int)) (P_len Tryd.underlying57 rfl xD) rfl ?_
    refine EL_mw (.int .i64 (0)) rfl rfl ?_
    refine EL_nil (thn_n (E_block ?_))
    refine E_lp h (fun (s : (List Str) × Int) e w => ∃ (g : Gh) (v6 : Value), Fr gI wI g w ∧ e 1 = up1 ∧ RV g.m w (x1 : List Int) up1 ∧ e 6 = v6 ∧ RV g.m w (s.1 : List Str) v6 ∧ OS 1006 g w 9 (s.1 : List Str) v6 ∧ e 30 = l5 ∧ RV g.m w (x5.1 : List Str) l5 ∧ e 31 = .int .i64 (((x5.1).length : Int)) ∧ e 32 = .int .i64 (s.2)) ⟨nK, (yH), hfr, zH, aI, bI, dI, iI, rfl, xD, rfl, rfl⟩ (fun X144 aG kI => ?_)
    rintro ⟨g8, o0⟩ sK dL ⟨uD, m7, hfr, iD, tB, jD, lD, nD, mC, bA, qC, iA⟩ h
    refine E_seq (E_region (EL_in (.bool ((decide (o0 < ((x5.1).length : Int))))) iA qC rfl rfl ?_))
    refine EL_nil (thn_n (E_seq ?_))
    rcases csome h with ⟨bD, h⟩ | ⟨bD, h⟩
    ·refine E_ct bD rfl ?_
     refine E_skip (thn_n ?_)
     obtain ⟨a9, hx, h⟩ := bsome h
     refine E_join (fun e w => ∃ (g : Gh) (v6 : Value), Fr gI wI g w ∧ e 1 = up1 ∧ RV g.m w (x1 : List Int) up1 ∧ e 6 = v6 ∧ RV g.m w (a9 : List Str) v6 ∧ OS 1006 g w 9 (a9 : List Str) v6 ∧ e 30 = l5 ∧ RV g.m w (x5.1 : List Str) l5 ∧ e 31 = .int .i64 (((x5.1).length : Int)) ∧ e 32 = .int .i64 (o0)) (fun Q' hQ => ?_) (fun tK eL hR => ?_)
     ·replace h := hx
      clear hx
      refine E_block ?_
      refine E_seq (E_region ?_)
      obtain ⟨nB, yD, h⟩ := bsome h
      refine EL_p (ePtr l5 o0 1) (P_indexAddr (α := Str) Tryd.underlying57 Tryd.sizeOf9 mC bA iA yD) rfl ?_
      have vI := PT_idx bA yD
      refine EL_do .plain rfl (D_load (g := uD) Tryd.isAgg9 Tryd.sizeOf9 rfl vI fun gL yI => ?_)
      obtain rfl := RV_str.1 yI
      refine EL_at (Str.v (nB)) rfl rfl ?_
      refine EL_nil (thn_n (E_seq (E_region (EL_at (.slice none 0 0) rfl rfl ?_))))
      refine EL_nil (thn_n ?_)
      obtain ⟨m8, hx, h⟩ := bsome h
      refine E_join (fun e w => ∃ (g : Gh) (d9 : Value), Fr gI wI g w ∧ e 1 = up1 ∧ RV g.m w (x1 : List Int) up1 ∧ e 6 = m7 ∧ RV g.m w (g8 : List Str) m7 ∧ OS 1006 g w 9 (g8 : List Str) m7 ∧ e 12 = d9 ∧ RV g.m w (m8 : List UInt8) d9 ∧ OS 1012 g w 5 (m8 : List UInt8) d9 ∧ e 30 = l5 ∧ RV g.m w (x5.1 : List Str) l5 ∧ e 31 = .int .i64 (((x5.1).length : Int)) ∧ e 32 = .int .i64 (o0)) (fun Q' hQ => ?_) (fun uK iL hR => ?_)
      ·replace h := hx
       clear hx
       refine E_seq (E_region (EL_mv iD rfl ?_))
       refine EL_p (.int .i64 ((x1).length : Int)) (P_len Tryd.underlying34 rfl tB) rfl ?_
       refine EL_mw (.int .i64 (0)) rfl rfl ?_
       refine EL_nil (thn_n (E_block ?_))
       refine E_lp h (fun (s : (List UInt8) × Int) e w => ∃ (g : Gh) (d9 : Value), Fr gI wI g w ∧ e 1 = up1 ∧ RV g.m w (x1 : List Int) up1 ∧ e 6 = m7 ∧ RV g.m w (g8 : List Str) m7 ∧ OS 1006 g w 9 (g8 : List Str) m7 ∧ e 11 = Str.v (nB) ∧ e 12 = d9 ∧ RV g.m w (s.1 : List UInt8) d9 ∧ OS 1012 g w 5 (s.1 : List UInt8) d9 ∧ e 30 = l5 ∧ RV g.m w (x5.1 : List Str) l5 ∧ e 31 = .int .i64 (((x5.1).length : Int)) ∧ e 32 = .int .i64 (o0) ∧ e 36 = up1 ∧ RV g.m w (x1 : List Int) up1 ∧ e 37 = .int .i64 (((x1).length : Int)) ∧ e 38 = .int .i64 (s.2)) ⟨uD, (.slice none 0 0), hfr, iD, tB, jD, lD, nD, rfl, rfl, RV_nil, OS.nil, mC, bA, qC, iA, rfl, tB, rfl, rfl⟩ (fun X235 bG lI => ?_)
       rintro ⟨l9, i6⟩ vK jL ⟨cD, aE, hfr, vB, x6, yB, y6, i7, rA, yA, k8, l8, aB, t5, dB, iB, lB, u3, mB, n9⟩ h
       refine E_seq (E_region (EL_in (.bool ((decide (i6 < ((x1).length : Int))))) n9 mB rfl rfl ?_))
       refine EL_nil (thn_n (E_seq ?_))
       rcases csome h with ⟨eD, h⟩ | ⟨eD, h⟩
       ·refine E_ct eD rfl ?_
        refine E_skip (thn_n ?_)
        obtain ⟨n8, hx, h⟩ := bsome h
        refine E_join (fun e w => ∃ (g : Gh) (d9 : Value), Fr gI wI g w ∧ e 1 = up1 ∧ RV g.m w (x1 : List Int) up1 ∧ e 6 = m7 ∧ RV g.m w (g8 : List Str) m7 ∧ OS 1006 g w 9 (g8 : List Str) m7 ∧ e 11 = Str.v (nB) ∧ e 12 = d9 ∧ RV g.m w (n8 : List UInt8) d9 ∧ OS 1012 g w 5 (n8 : List UInt8) d9 ∧ e 30 = l5 ∧ RV g.m w (x5.1 : List Str) l5 ∧ e 31 = .int .i64 (((x5.1).length : Int)) ∧ e 32 = .int .i64 (o0) ∧ e 36 = up1 ∧ RV g.m w (x1 : List Int) up1 ∧ e 37 = .int .i64 (((x1).length : Int)) ∧ e 38 = .int .i64 (i6)) (fun Q' hQ => ?_) (fun xK lL hR => ?_)
        ·replace h := hx
         clear hx
         refine E_block ?_
         refine E_seq (E_region ?_)
         obtain ⟨u9, zD, h⟩ := bsome h
         refine EL_p (ePtr up1 i6 1) (P_indexAddr (α := Int) Tryd.underlying34 Tryd.sizeOf3 lB u3 n9 zD) rfl ?_
         have zI := PT_idx u3 zD
         refine EL_do .plain rfl (D_load (g := cD) Tryd.isAgg3 Tryd.sizeOf3 rfl zI fun mL eJ => ?_)
         obtain rfl := RV_int.1 eJ
         refine EL_at (.int .i64 (u9)) rfl rfl ?_
         refine EL_nil (thn_n (E_seq (E_region (EL_mw (.int .i64 (u9)) rfl rfl ?_))))
         refine EL_in (.bool ((u9 == (-1 : Int)))) rfl rfl rfl rfl ?_
         refine EL_nil (thn_n ?_)
         rcases csome h with ⟨gD, h⟩ | ⟨gD, h⟩
         ·refine E_ct gD rfl ?_
          refine E_region (EL_mv yA rfl ?_)
          refine EL_do .plain rfl (D_buildSlice (g := cD) 3045 (xs := ([(46 : UInt8)] : List UInt8)) (vs := [.int .u8 (UInt8.toNat 46)]) Tryd.underlying47 Tryd.sizeOf5 Tryd.zeroValue5 rfl rfl (.cons rfl .nil) (RVs.cons (RV_u8.2 rfl) RVs.nil) rfl rfl fun gJ nL oL hs o253 iJ hxt hfl => ?_)
          have hfr := hfr.stp hs
          have x6 := x6.stp hs
          have y6 := y6.stp hs
          have i7 := i7.stp hs rfl
          have k8 := k8.stp hs
          have l8 := l8.stp hs rfl
          have t5 := t5.stp hs
          have u3 := u3.stp hs
          obtain ⟨cG, mI, h⟩ := bsome h
          refine EL_do .plain rfl (D_append (g := gJ) (i := 1012) Tryd.underlying47 info_5 rfl rfl l8 k8 rfl iJ mI fun jJ pL iG hs o254 kJ _ => ?_)
          have hfr := hfr.stp hs
          have x6 := x6.stp hs
          have y6 := y6.stp hs
          have i7 := i7.stp hs rfl
          have t5 := t5.stp hs
          have u3 := u3.stp hs
          refine EL_at iG rfl rfl ?_
          refine EL_nil (blk_n ?_)
          obtain rfl := sinj h
          exact hQ _ _ ⟨jJ, (iG), hfr, vB, x6, yB, y6, i7, rA, rfl, kJ, o254, aB, t5, dB, iB, lB, u3, mB, n9⟩
         ·refine E_cf gD rfl ?_
          refine E_region (EL_mv yA rfl ?_)
          refine EL_mv rA rfl ?_
          refine EL_mw (.int .i64 (u9)) rfl rfl ?_
          obtain ⟨oB, nI, h⟩ := bsome h
          refine EL_p (.int .u8 (UInt8.toNat (oB))) (P_indexS Tryd.underlying9 rfl rfl nI) rfl ?_
          refine EL_do .plain rfl (D_buildSlice (g := cD) 3051 (xs := ([oB] : List UInt8)) (vs := [.int .u8 (UInt8.toNat (oB))]) Tryd.underlying47 Tryd.sizeOf5 Tryd.zeroValue5 rfl rfl (.cons rfl .nil) (RVs.cons (RV_u8.2 rfl) RVs.nil) rfl rfl fun lJ qL rL hs o257 mJ hxt hfl => ?_)
          have hfr := hfr.stp hs
          have x6 := x6.stp hs
          have y6 := y6.stp hs
          have i7 := i7.stp hs rfl
          have k8 := k8.stp hs
          have l8 := l8.stp hs rfl
          have t5 := t5.stp hs
          have u3 := u3.stp hs
          obtain ⟨eG, pI, h⟩ := bsome h
          refine EL_do .plain rfl (D_append (g := lJ) (i := 1012) Tryd.underlying47 info_5 rfl rfl l8 k8 rfl mJ pI fun nJ tL jG hs o258 oJ _ => ?_)
          have hfr := hfr.stp hs
          have x6 := x6.stp hs
          have y6 := y6.stp hs
          have i7 := i7.stp hs rfl
          have t5 := t5.stp hs
          have u3 := u3.stp hs
          refine EL_at jG rfl rfl ?_
          refine EL_nil (blk_n ?_)
          obtain rfl := sinj h
          exact hQ _ _ ⟨nJ, (jG), hfr, vB, x6, yB, y6, i7, rA, rfl, oJ, o258, aB, t5, dB, iB, lB, u3, mB, n9⟩
        ·clear hx
         obtain ⟨pJ, bE, hfr, kG, lG, mG, sG, xG, iE, lE, mE, oE, rE, uE, vE, xE, yE, zE, cF, dF⟩ := hR
         refine E_region (EL_in (.int .i64 ((w64 (i6 + (1 : Int))))) dF rfl rfl rfl ?_)
         refine EL_mw (.int .i64 ((w64 (i6 + (1 : Int))))) rfl rfl ?_
         exact EL_nil (thn_n (lI (n8, (w64 (i6 + (1 : Int)))) _ _ ⟨pJ, (bE), hfr, kG, lG, mG, sG, xG, iE, lE, mE, oE, rE, uE, vE, xE, yE, zE, cF, rfl⟩ h))
       ·refine E_cf eD rfl ?_
        refine E_exit ?_
        refine thn_e ?_
        refine thn_e ?_
        refine blk_hit ?_
        obtain rfl := sinj h
        exact hQ _ _ ⟨cD, (aE), hfr, vB, x6, yB, y6, i7, yA, k8, l8, aB, t5, dB, iB⟩
      ·clear hx
       obtain ⟨qJ, zJ, hfr, yG, k9, zG, zB, cC, eF, rF, aK, sF, x8, tF, uF⟩ := hR
       refine E_region (EL_mv zG rfl ?_)
       refine EL_mv eF rfl ?_
       refine EL_do .plain rfl (D_convBSr Tryd.underlying47 Tryd.underlying9 Tryd.underlying5 rfl rF ?_)
       refine EL_do .plain rfl (D_buildSlice (g := qJ) 3057 (xs := ([(⟨m8⟩ : Str)] : List Str)) (vs := [Str.v (⟨m8⟩ : Str)]) Tryd.underlying57 Tryd.sizeOf9 Tryd.zeroValue9 rfl rfl (.cons rfl .nil) (RVs.cons (RV_str.2 rfl) RVs.nil) rfl rfl fun rJ uL vL hs o262 sJ hxt hfl => ?_)
       have hfr := hfr.stp hs
       have k9 := k9.stp hs
       have zB := zB.stp hs
       have cC := cC.stp hs rfl
       have x8 := x8.stp hs
       obtain ⟨gG, qI, h⟩ := bsome h
       refine EL_do .plain rfl (D_append (g := rJ) (i := 1006) Tryd.underlying57 info_9 rfl rfl cC zB rfl sJ qI fun vJ xL aH hs o263 xJ _ => ?_)
       have hfr := hfr.stp hs
       have k9 := k9.stp hs
       have x8 := x8.stp hs
       refine EL_at aH rfl rfl ?_
       refine EL_nil (blk_n ?_)
       obtain rfl := sinj h
       exact hQ _ _ ⟨vJ, (aH), hfr, yG, k9, rfl, xJ, o263, sF, x8, tF, uF⟩
     ·clear hx
      obtain ⟨yJ, cH, hfr, dH, gH, iH, jH, kH, vF, xF, yF, zF⟩ := hR
      refine E_region (EL_in (.int .i64 ((w64 (o0 + (1 : Int))))) zF rfl rfl rfl ?_)
      refine EL_mw (.int .i64 ((w64 (o0 + (1 : Int))))) rfl rfl ?_
      exact EL_nil (thn_n (kI (a9, (w64 (o0 + (1 : Int)))) _ _ ⟨yJ, (cH), hfr, dH, gH, iH, jH, kH, vF, xF, yF, rfl⟩ h))
    ·refine E_cf bD rfl ?_
     refine E_exit ?_
     refine thn_e ?_
     refine thn_e ?_
     refine blk_hit ?_
     obtain rfl := sinj h
     exact hQ _ _ ⟨uD, (m7), hfr, jD, lD, nD⟩
   ·clear hx
    obtain ⟨yL, oD, hfr, lH, mH, oK⟩ := hR
    refine E_seq (E_region (EL_mv lH rfl ?_))
    refine EL_at oD rfl rfl ?_
    refine EL_at (.int .i64 (0)) rfl rfl ?_
    refine EL_nil (thn_n (E_ret ?_))
    obtain rfl := sinj h
    exact end2 rfl rfl (show _ = oD from rfl) (show _ = .int .i64 (0) from rfl) ⟨_, hfr, _, _, rfl, mH, rfl⟩
def f32  : Option (Bool) :=
 (f68 ((⟨(4 : Int), ([(0 : Int), (1 : Int), (2 : Int), (3 : Int), (2 : Int), (1 : Int)] : List Int)⟩ : TieHarness)) (([(0 : Int), (1 : Int), (1 : Int), (-1 : Int), (4 : Int), (5 : Int)] : List Int))).bind fun y8 =>
 (f69 (([(0 : Int), (5 : Int), (2 : Int), (3 : Int), (4 : Int), (1 : Int)] : List Int))).bind fun y11 =>
 Option.bind (α := Bool) (
  bif (y8.2.2 == (0 : Int)) then
   bif (y11.2 == (0 : Int)) then
    (f35 (y8.1) (([(2 : Int), (3 : Int)] : List Int))).bind fun k8 =>
    bif k8 then
     (f35 (y8.2.1) (([(0 : Int), (1 : Int), (2 : Int), (3 : Int), (4 : Int), (5 : Int)] : List Int))).bind fun l8 =>
     bif l8 then
      (f35 (y11.1) (([(1 : Int), (2 : Int), (5 : Int)] : List Int))).bind fun m8 =>
      some (m8)
     else
      some (false)
    else
     some (false)
   else
    some (false)
  else
   some (false)
  ) fun i7 =>
 some (i7)
theorem en32 : Enters Tryd.prog 32 := enters_of Tryd.func32 (by kernel_rfl) rfl
theorem wk32 {gI : Gh} {wI : World}   {r : Bool} (h : f32  = some r) : Fn Tryd.prog 32 #[] gI wI (fun _ _ v => v = .bool (r)) := by
 unfold f32 at h
 refine fn_of_E Tryd.func32 rfl (Nat.le_of_ble_eq_true rfl) fun g0 hm hfr => ?_
 show E _ 42 none _ _ _ _ _
 refine E_seq (E_region (EL_at (.bool false) rfl rfl ?_))
 refine EL_nil (thn_n (E_seq (E_region (EL_do .plain rfl (D_buildSlice (g := g0) 3007 (xs := ([(0 : Int), (1 : Int), (2 : Int), (3 : Int), (2 : Int), (1 : Int)] : List Int)) (vs := [.int .i64 (0), .int .i64 (1), .int .i64 (2), .int .i64 (3), .int .i64 (2), .int .i64 (1)]) Tryd.underlying34 Tryd.sizeOf3 Tryd.zeroValue3 rfl rfl (.cons rfl (.cons rfl (.cons rfl (.cons rfl (.cons rfl (.cons rfl .nil)))))) (RVs.cons (RV_int.2 rfl) (RVs.cons (RV_int.2 rfl) (RVs.cons (RV_int.2 rfl) (RVs.cons (RV_int.2 rfl) (RVs.cons (RV_int.2 rfl) (RVs.cons (RV_int.2 rfl) RVs.nil)))))) rfl rfl fun g1 w1 v1 hs o1 r1 hxt hfl => ?_)))))
 have hfr := hfr.stp hs
 have r2 : RV g1.m _ (⟨(4 : Int), ([(0 : Int), (1 : Int), (2 : Int), (3 : Int), (2 : Int), (1 : Int)] : List Int)⟩ : TieHarness) (.agg (setCh [[.int .i64 0], [.slice none 0 0]] [(0, .int .i64 (4)), (1, v1)]).flatten.toArray) := RV_build rfl (rep_pair (rfl) (rep_last (RV.cells r1)))
 generalize hv2 : (Value.agg (setCh [[.int .i64 0], [.slice none 0 0]] [(0, .int .i64 (4)), (1, v1)]).flatten.toArray) = v2 at r2
 refine EL_p v2 (hv2 ▸ P_build (vs := [(0, .int .i64 (4)), (1, v1)]) [[.int .i64 0], [.slice none 0 0]] lay_52 rfl rfl (.cons rfl (.cons rfl .nil)) ⟨⟨_, rfl, rfl⟩, ⟨⟨_, rfl, cells_size r1⟩, trivial⟩⟩) rfl ?_
 refine EL_do .plain rfl (D_allocOc (g := g1) 2001 (⟨0, []⟩ : TieHarness) Tryd.zeroValue52 (fun m w => ⟨_, (rep_two rep_int rep_nil), rfl⟩) fun g3 w3 p3 hs b3 cb => ?_)
 have hfr := hfr.stp hs
 have r1 := r1.stp hs
 have o1 := o1.stp hs rfl
 have r2 := r2.stp hs
 have tB : OSF 2001 60101 1 g3 w3 3 52 ([] : List Int) p3 := cb.osf (by rfl)
 clear cb
 refine EL_do .plain rfl (D_storeOc (g := g3) (v := v2) Tryd.sizeOf52 rfl b3 rfl r2 fun g4 w4 hs b4 cb => ?_)
 obtain ⟨mB, nB, n8, _, _⟩ := RV_list r1
 have vB : OSF 2001 3007 1 g4 w4 3 52 (([(0 : Int), (1 : Int), (2 : Int), (3 : Int), (2 : Int), (1 : Int)] : List Int) : List Int) p3 := cb.osfv (by rw [← hv2, n8]; rfl) (o1.stp hs rfl)
 clear cb
 have hfr := hfr.stp hs
 refine EL_nil (thn_n (E_seq (E_region (EL_do .plain rfl (D_loadO (g := g4) Tryd.isAgg52 Tryd.sizeOf52 rfl b4 fun v5 r5 => ?_)))))
 refine EL_do .plain rfl (D_buildSlice (g := g4) 3011 (xs := ([(0 : Int), (1 : Int), (1 : Int), (-1 : Int), (4 : Int), (5 : Int)] : List Int)) (vs := [.int .i64 (0), .int .i64 (1), .int .i64 (1), .int .i64 (-1), .int .i64 (4), .int .i64 (5)]) Tryd.underlying34 Tryd.sizeOf3 Tryd.zeroValue3 rfl rfl (.cons rfl (.cons rfl (.cons rfl (.cons rfl (.cons rfl (.cons rfl .nil)))))) (RVs.cons (RV_int.2 rfl) (RVs.cons (RV_int.2 rfl) (RVs.cons (RV_int.2 rfl) (RVs.cons (RV_int.2 rfl) (RVs.cons (RV_int.2 rfl) (RVs.cons (RV_int.2 rfl) RVs.nil)))))) rfl rfl fun g6 w6 v6 hs o6 r6 hxt hfl => ?_)
 have hfr := hfr.stp hs
 have r5 := r5.stp hs
 obtain ⟨y8, u9, h⟩ := bsome h
 refine EL_do .plain rfl (D_call (g := g6) (vs := [v5, v6]) en68 (.cons rfl (.cons rfl .nil)) (wk68 r5 r6 u9) fun g7 w7_ v7 hs hr => ?_)
 have hfr := hfr.ext hs
 obtain ⟨m7, g8, yB, rfl, i6, u3, rfl⟩ := hr
 refine EL_mw (.tuple #[m7, g8, .int .i64 (y8.2.2)]) rfl rfl ?_
 refine EL_p m7 (P_extract rfl rfl) rfl ?_
 refine EL_p g8 (P_extract rfl rfl) rfl ?_
 refine EL_p (.int .i64 (y8.2.2)) (P_extract rfl rfl) rfl ?_
 refine EL_at m7 rfl rfl ?_
 refine EL_at g8 rfl rfl ?_
 refine EL_at (.int .i64 (y8.2.2)) rfl rfl ?_
 refine EL_nil (thn_n (E_seq (E_region (EL_do .plain rfl (D_buildSlice (g := g7) 3017 (xs := ([(0 : Int), (5 : Int), (2 : Int), (3 : Int), (4 : Int), (1 : Int)] : List Int)) (vs := [.int .i64 (0), .int .i64 (5), .int .i64 (2), .int .i64 (3), .int .i64 (4), .int .i64 (1)]) Tryd.underlying34 Tryd.sizeOf3 Tryd.zeroValue3 rfl rfl (.cons rfl (.cons rfl (.cons rfl (.cons rfl (.cons rfl (.cons rfl .nil)))))) (RVs.cons (RV_int.2 rfl) (RVs.cons (RV_int.2 rfl) (RVs.cons (RV_int.2 rfl) (RVs.cons (RV_int.2 rfl) (RVs.cons (RV_int.2 rfl) (RVs.cons (RV_int.2 rfl) RVs.nil)))))) rfl rfl fun g9 w9 v9 hs o9 r9 hxt hfl => ?_)))))
 have hfr := hfr.stp hs
 have i6 := i6.stp hs
 have u3 := u3.stp hs
 obtain ⟨y11, d9, h⟩ := bsome h
 refine EL_do .plain rfl (D_call (g := g9) (vs := [v9]) en69 (.cons rfl .nil) (wk69 r9 d9) fun r8 zB uC hs hr => ?_)
 have hfr := hfr.ext hs
 have i6 := i6.ext hs
 have u3 := u3.ext hs
 obtain ⟨y6, oB, rfl, o0, rfl⟩ := hr
 refine EL_mw (.tuple #[y6, .int .i64 (y11.2)]) rfl rfl ?_
 refine EL_p y6 (P_extract rfl rfl) rfl ?_
 refine EL_p (.int .i64 (y11.2)) (P_extract rfl rfl) rfl ?_
 refine EL_at y6 rfl rfl ?_
 refine EL_at (.int .i64 (y11.2)) rfl rfl ?_
 refine EL_nil (thn_n ?_)
 obtain ⟨i7, hx, h⟩ := bsome h
 refine E_join (fun e w => ∃ (g : Gh) , Fr gI wI g w ∧ e 0 = .bool (i7)) (fun Q' hQ => ?_) (fun cC vC hR => ?_)
 ·replace h := hx
  clear hx
  refine E_region (EL_mw (.int .i64 (y8.2.2)) rfl rfl ?_)
  refine EL_in (.bool ((y8.2.2 == (0 : Int)))) rfl rfl rfl rfl ?_
  refine EL_mw (.bool ((y8.2.2 == (0 : Int)))) rfl rfl ?_
  rcases csome h with ⟨x6, h⟩ | ⟨x6, h⟩
  ·refine EL_y (.int .i64 (y11.2)) (P_move rfl) rfl rfl x6 rfl ?_
   refine EL_y (.bool ((y11.2 == (0 : Int)))) (P_int rfl rfl rfl) rfl rfl x6 rfl ?_
   refine EL_p (.bool ((y11.2 == (0 : Int)))) (P_pick (b := (y8.2.2 == (0 : Int))) rfl (pick_t x6 rfl)) rfl ?_
   refine EL_mw (.bool ((y11.2 == (0 : Int)))) rfl rfl ?_
   rcases csome h with ⟨l5, h⟩ | ⟨l5, h⟩
   ·refine EL_y m7 (P_move rfl) rfl rfl l5 rfl ?_
    refine EL_do (.yes2 rfl rfl l5) rfl (D_buildSlice (g := r8) 3029 (xs := ([(2 : Int), (3 : Int)] : List Int)) (vs := [.int .i64 (2), .int .i64 (3)]) Tryd.underlying34 Tryd.sizeOf3 Tryd.zeroValue3 rfl rfl (.cons rfl (.cons rfl .nil)) (RVs.cons (RV_int.2 rfl) (RVs.cons (RV_int.2 rfl) RVs.nil)) rfl rfl fun y9 aD z9 hs o27 bA hxt hfl => ?_)
    have hfr := hfr.stp hs
    have i6 := i6.stp hs
    have u3 := u3.stp hs
    have o0 := o0.stp hs
    obtain ⟨k8, k9, h⟩ := bsome h
    refine EL_do (.yes2 rfl rfl l5) rfl (D_call (g := y9) (vs := [m7, z9]) en35 (.cons rfl (.cons rfl .nil)) (wk35 i6 bA k9) fun x8 mC bD hs hr => ?_)
    have hfr := hfr.ext hs
    have u3 := u3.ext hs
    have o0 := o0.ext hs
    subst hr
    refine EL_p (.bool (k8)) (P_pick (b := (y11.2 == (0 : Int))) rfl (pick_t l5 rfl)) rfl ?_
    refine EL_mw (.bool (k8)) rfl rfl ?_
    rcases csome h with ⟨t5, h⟩ | ⟨t5, h⟩
    ·refine EL_y g8 (P_move rfl) rfl rfl t5 rfl ?_
     refine EL_do (.yes2 rfl rfl t5) rfl (D_buildSlice (g := x8) 3034 (xs := ([(0 : Int), (1 : Int), (2 : Int), (3 : Int), (4 : Int), (5 : Int)] : List Int)) (vs := [.int .i64 (0), .int .i64 (1), .int .i64 (2), .int .i64 (3), .int .i64 (4), .int .i64 (5)]) Tryd.underlying34 Tryd.sizeOf3 Tryd.zeroValue3 rfl rfl (.cons rfl (.cons rfl (.cons rfl (.cons rfl (.cons rfl (.cons rfl .nil)))))) (RVs.cons (RV_int.2 rfl) (RVs.cons (RV_int.2 rfl) (RVs.cons (RV_int.2 rfl) (RVs.cons (RV_int.2 rfl) (RVs.cons (RV_int.2 rfl) (RVs.cons (RV_int.2 rfl) RVs.nil)))))) rfl rfl fun iA cD rA hs o31 yA hxt hfl => ?_)
     have hfr := hfr.stp hs
     have u3 := u3.stp hs
     have o0 := o0.stp hs
     obtain ⟨l8, l9, h⟩ := bsome h
     refine EL_do (.yes2 rfl rfl t5) rfl (D_call (g := iA) (vs := [g8, rA]) en35 (.cons rfl (.cons rfl .nil)) (wk35 u3 yA l9) fun a9 qC eD hs hr => ?_)
     have hfr := hfr.ext hs
     have o0 := o0.ext hs
     subst hr
     refine EL_p (.bool (l8)) (P_pick (b := k8) rfl (pick_t t5 rfl)) rfl ?_
     refine EL_mw (.bool (l8)) rfl rfl ?_
     rcases csome h with ⟨x5, h⟩ | ⟨x5, h⟩
     ·refine EL_y y6 (P_move rfl) rfl rfl x5 rfl ?_
      refine EL_do (.yes2 rfl rfl x5) rfl (D_buildSlice (g := a9) 3039 (xs := ([(1 : Int), (2 : Int), (5 : Int)] : List Int)) (vs := [.int .i64 (1), .int .i64 (2), .int .i64 (5)]) Tryd.underlying34 Tryd.sizeOf3 Tryd.zeroValue3 rfl rfl (.cons rfl (.cons rfl (.cons rfl .nil))) (RVs.cons (RV_int.2 rfl) (RVs.cons (RV_int.2 rfl) (RVs.cons (RV_int.2 rfl) RVs.nil))) rfl rfl fun aB gD dB hs o35 iB hxt hfl => ?_)
      have hfr := hfr.stp hs
      have o0 := o0.stp hs
      obtain ⟨m8, n9, h⟩ := bsome h
      refine EL_do (.yes2 rfl rfl x5) rfl (D_call (g := aB) (vs := [y6, dB]) en35 (.cons rfl (.cons rfl .nil)) (wk35 o0 iB n9) fun lB rC iD hs hr => ?_)
      have hfr := hfr.ext hs
      subst hr
      refine EL_p (.bool (m8)) (P_pick (b := l8) rfl (pick_t x5 rfl)) rfl ?_
      refine EL_at (.bool (m8)) rfl rfl ?_
      refine EL_nil ?_
      obtain rfl := sinj h
      exact hQ _ _ ⟨lB, hfr, rfl⟩
     ·refine EL_s rfl rfl x5 rfl rfl ?_
      refine EL_s rfl rfl x5 rfl rfl ?_
      refine EL_s rfl rfl x5 rfl rfl ?_
      refine EL_p (.bool false) (P_pick (b := l8) rfl (pick_f x5 rfl)) rfl ?_
      refine EL_at (.bool false) rfl rfl ?_
      refine EL_nil ?_
      obtain rfl := sinj h
      exact hQ _ _ ⟨a9, hfr, rfl⟩
    ·refine EL_s rfl rfl t5 rfl rfl ?_
     refine EL_s rfl rfl t5 rfl rfl ?_
     refine EL_s rfl rfl t5 rfl rfl ?_
     refine EL_p (.bool false) (P_pick (b := k8) rfl (pick_f t5 rfl)) rfl ?_
     refine EL_dead 5 rfl ?_
     refine EL_at (.bool false) rfl rfl ?_
     refine EL_nil ?_
     obtain rfl := sinj h
     exact hQ _ _ ⟨x8, hfr, rfl⟩
   ·refine EL_s rfl rfl l5 rfl rfl ?_
    refine EL_s rfl rfl l5 rfl rfl ?_
    refine EL_s rfl rfl l5 rfl rfl ?_
    refine EL_p (.bool false) (P_pick (b := (y11.2 == (0 : Int))) rfl (pick_f l5 rfl)) rfl ?_
    refine EL_dead 10 rfl ?_
    refine EL_at (.bool false) rfl rfl ?_
    refine EL_nil ?_
    obtain rfl := sinj h
    exact hQ _ _ ⟨r8, hfr, rfl⟩
  ·refine EL_s rfl rfl x6 rfl rfl ?_
   refine EL_s rfl rfl x6 rfl rfl ?_
   refine EL_p (.bool false) (P_pick (b := (y8.2.2 == (0 : Int))) rfl (pick_f x6 rfl)) rfl ?_
   refine EL_dead 15 rfl ?_
   refine EL_at (.bool false) rfl rfl ?_
   refine EL_nil ?_
   obtain rfl := sinj h
   exact hQ _ _ ⟨r8, hfr, rfl⟩
 ·clear hx
  obtain ⟨jD, hfr, v8⟩ := hR
  refine E_ret ?_
  obtain rfl := sinj h
  exact end1 rfl rfl (show _ = .bool (i7) from v8) ⟨_, hfr, rfl⟩
def f54 (x0 : List Str) : Option (TieHarness × Int) :=
 Option.bind (α := Int) (
  bif (decide (((x0).length : Int) > (0 : Int))) then
   (idx x0 (0 : Int)).bind fun y7 =>
   some (((y7).b.length : Int))
  else
   some ((0 : Int))
  ) fun l5 =>
 jn (σ := TieHarness) (fun vB =>
  Option.bind (α := TieHarness × (List (Str × Int))) (
   lp (σ := TieHarness × (List (Str × Int)) × Int) (fun k60 (g8, o0, u3) =>
    bif (decide (u3 < l5)) then
     Option.bind (α := TieHarness × (List (Str × Int))) (
      (f104 x0 u3).bind fun y80 =>
      Option.bind (α := (List (Str × Int)) × Int) (
       bif (!((mget o0 y80).isSome)) then
        some ((mset o0 y80 (((o0).length : Int))), ((o0).length : Int))
       else
        some (o0, ((mget o0 y80).getD (0 : Int)))
       ) fun (z9, m8) =>
      (apnd 8 ((g8).Warps) (([m8] : List Int))).bind fun rC =>
      some ({ g8 with Warps := rC }, z9)
      ) fun (n8, k9) =>
     k60 (n8, k9, (w64 (u3 + (1 : Int))))
    else
     some (g8, o0)
    ) big (vB, ([] : List (Str × Int)), (0 : Int))
   ) fun (x5, k8) =>
  jn (σ := TieHarness) (fun lB =>
   some (lB, (0 : Int))
   ) fun uC =>
  bif (decide (({ x5 with Hooks := ((k8).length : Int) }).Hooks > (24 : Int))) then
   some ((⟨0, []⟩ : TieHarness), (8 : Int))
  else
   uC ({ x5 with Hooks := ((k8).length : Int) })
  ) fun yE =>
 (f103 x0 l5).bind fun r8 =>
 bif (r8 != (0 : Int)) then
  some ((⟨0, []⟩ : TieHarness), r8)
 else
  yE ((⟨0, []⟩ : TieHarness))
theorem en54 : Enters Tryd.prog 54 := enters_of Tryd.func54 (by kernel_rfl) rfl
theorem wk54 {gI : Gh} {wI : World} {x0 : List Str} {up0 : Value} (rp0 : RV gI.m wI x0 up0) {r : TieHarness × Int} (h : f54 x0 = some r) : Fn Tryd.prog 54 #[up0] gI wI (fun m w v => ∃ y0 y1, v = .tuple #[y0, y1] ∧ RV m w (r.1) y0 ∧ y1 = .int .i64 (r.2)) := by
 unfold f54 at h
 refine fn_of_E Tryd.func54 rfl (Nat.le_of_ble_eq_true rfl) fun g0 hm hfr => ?_
 have rp0 : RV g0.m wI x0 up0 := hm ▸ rp0
 show E _ 61 none _ _ _ _ _
 refine E_seq (E_region (EL_do .plain rfl (D_allocOc (g := g0) 2002 (⟨0, []⟩ : TieHarness) Tryd.zeroValue52 (fun m w => ⟨_, (rep_two rep_int rep_nil), rfl⟩) fun g1 w1 p1 hs b1 cb => ?_)))
 have hfr := hfr.stp hs
 have rp0 := rp0.stp hs
 have vC : OSF 2002 60201 1 g1 w1 3 52 ([] : List Int) p1 := cb.osf (by rfl)
 clear cb
 refine EL_at (.int .i64 (0)) rfl rfl ?_
 refine EL_nil (thn_n (E_seq (E_region (EL_at (.int .i64 (0)) rfl rfl ?_))))
 refine EL_nil (thn_n ?_)
 obtain ⟨l5, hx, h⟩ := bsome h
 refine E_join (fun e w => ∃ (g : Gh) , Fr gI wI g w ∧ e 0 = up0 ∧ RV g.m w (x0 : List Str) up0 ∧ e 2 = p1 ∧ OB 2002 g w 52 ((⟨0, []⟩ : TieHarness) : TieHarness) p1 ∧ OSF 2002 60201 1 g w 3 52 (((⟨0, []⟩ : TieHarness)).Warps) p1 ∧ e 4 = .int .i64 (l5)) (fun Q' hQ => ?_) (fun iH xH hR => ?_)
 ·replace h := hx
  clear hx
  refine E_seq (E_region (EL_mw up0 rfl rfl ?_))
  refine EL_p (.int .i64 ((x0).length : Int)) (P_len Tryd.underlying57 rfl rp0) rfl ?_
  refine EL_in (.bool ((decide (((x0).length : Int) > (0 : Int))))) rfl rfl rfl rfl ?_
  refine EL_nil (thn_n ?_)
  rcases csome h with ⟨hc6, h⟩ | ⟨hc6, h⟩
  ·refine E_ct hc6 rfl ?_
   refine E_region (EL_mw up0 rfl rfl ?_)
   obtain ⟨y7, zE, h⟩ := bsome h
   refine EL_p (ePtr up0 (0 : Int) 1) (P_indexAddr (α := Str) Tryd.underlying57 Tryd.sizeOf9 rfl rp0 rfl zE) rfl ?_
   have q8 := PT_idx rp0 zE
   refine EL_do .plain rfl (D_load (g := g1) Tryd.isAgg9 Tryd.sizeOf9 rfl q8 fun v9 r9 => ?_)
   obtain rfl := RV_str.1 r9
   refine EL_p (.int .i64 ((y7).b.length : Int)) (P_lenS Tryd.underlying9 rfl) rfl ?_
   refine EL_at (.int .i64 ((y7).b.length : Int)) rfl rfl ?_
   refine EL_nil ?_
   obtain rfl := sinj h
   exact hQ _ _ ⟨g1, hfr, rfl, rp0, rfl, b1, vC, rfl⟩
  ·refine E_cf hc6 rfl ?_
   refine E_skip ?_
   obtain rfl := sinj h
   exact hQ _ _ ⟨g1, hfr, rfl, rp0, rfl, b1, vC, rfl⟩
 ·clear hx
  obtain ⟨hG, hfr, yB, l9, n9, v8, u2_1_10, zB⟩ := hR
  refine E_joinC h (fun (s : TieHarness) e w => ∃ (g : Gh) , Fr gI wI g w ∧ e 0 = up0 ∧ RV g.m w (x0 : List Str) up0 ∧ e 2 = p1 ∧ OB 2002 g w 52 (s : TieHarness) p1 ∧ OSF 2002 60201 1 g w 3 52 ((s).Warps) p1 ∧ e 4 = .int .i64 (l5)) (fun X17 yE sF h => ?_) ?_
  ·refine E_seq (E_region (EL_mv yB rfl ?_))
   refine EL_mv zB rfl ?_
   obtain ⟨r8, tF, h⟩ := bsome h
   refine EL_do .plain rfl (D_call (g := hG) (vs := [up0, .int .i64 (l5)]) en103 (.cons rfl (.cons rfl .nil)) (wk103 l9 tF) fun aD jH yH hs hr => ?_)
   have hfr := hfr.ext hs
   have l9 := l9.ext hs
   have u2_1_10 := u2_1_10.ext hs
   have v8 := v8.ext hs
   subst hr
   refine EL_at (.int .i64 (r8)) rfl rfl ?_
   refine EL_nil (thn_n (E_seq (E_region (EL_mw (.int .i64 (r8)) rfl rfl ?_))))
   refine EL_in (.bool ((r8 != (0 : Int)))) rfl rfl rfl rfl ?_
   refine EL_nil (thn_n ?_)
   rcases csome h with ⟨nB, h⟩ | ⟨nB, h⟩
   ·refine E_ct nB rfl ?_
    refine E_seq (E_region (EL_do .plain rfl (D_loadO (g := aD) Tryd.isAgg52 Tryd.sizeOf52 n9 v8 fun iG jG => ?_)))
    refine EL_mw (.int .i64 (r8)) rfl rfl ?_
    refine EL_do .plain rfl (D_storeOc (g := aD) (v := iG) Tryd.sizeOf52 n9 v8 rfl jG fun zH aI hs b22 cb => ?_)
    clear cb
    have hfr := hfr.stp hs
    refine EL_at (.int .i64 (r8)) rfl rfl ?_
    refine EL_nil (thn_n (E_ret (thn_r ?_)))
    obtain rfl := sinj h
    obtain ⟨ad23, cv23, hp23, uF, cr23⟩ := ob_read Tryd.isAgg52 Tryd.sizeOf52 b22
    exact endm_ct rfl rfl ((show _ = p1 from n9).trans hp23) uF (show _ = .int .i64 (r8) from rfl) ⟨_, hfr, _, _, rfl, cr23, rfl⟩
   ·refine E_cf nB rfl ?_
    exact E_skip (thn_n (sF ((⟨0, []⟩ : TieHarness)) _ _ ⟨aD, hfr, yB, l9, n9, v8, u2_1_10, zB⟩ h))
  ·rintro vB kH bI ⟨kG, hfr, oD, bA, sD, iA, u2_1_24, tD⟩ h
   refine E_seq (E_region (EL_do .plain rfl (D_makeMap (g := kG) Str.v Int 8025 fun lG dI x8 hs m25 => ?_)))
   have hfr := hfr.stp hs
   have bA := bA.stp hs
   have u2_1_24 := u2_1_24.stp hs rfl
   have iA := iA.stp hs rfl
   refine EL_at x8 rfl rfl ?_
   refine EL_nil (thn_n ?_)
   obtain ⟨⟨x5, k8⟩, hx, h⟩ := bsome h
   refine E_join (fun e w => ∃ (g : Gh) , Fr gI wI g w ∧ e 2 = p1 ∧ OB 2002 g w 52 (x5 : TieHarness) p1 ∧ OSF 2002 60201 1 g w 3 52 ((x5).Warps) p1 ∧ e 6 = x8 ∧ MP Str.v 8025 g w (k8 : List (Str × Int)) x8) (fun Q' hQ => ?_) (fun lH iI hR => ?_)
   ·replace h := hx
    clear hx
    refine E_seq (E_region (EL_mv tD rfl ?_))
    refine EL_mw (.int .i64 (0)) rfl rfl ?_
    refine EL_nil (thn_n (E_block ?_))
    refine E_lp h (fun (s : TieHarness × (List (Str × Int)) × Int) e w => ∃ (g : Gh) , Fr gI wI g w ∧ e 0 = up0 ∧ RV g.m w (x0 : List Str) up0 ∧ e 2 = p1 ∧ OB 2002 g w 52 (s.1 : TieHarness) p1 ∧ OSF 2002 60201 1 g w 3 52 ((s.1).Warps) p1 ∧ e 6 = x8 ∧ MP Str.v 8025 g w (s.2.1 : List (Str × Int)) x8 ∧ e 26 = .int .i64 (l5) ∧ e 27 = .int .i64 (s.2.2)) ⟨lG, hfr, oD, bA, sD, iA, u2_1_24, rfl, m25, rfl, rfl⟩ (fun X60 k60 vF => ?_)
    rintro ⟨g8, o0, u3⟩ mH jI ⟨cF, hfr, rA, i6, yA, x6, u2_1_61, l8, y6, u9, a9⟩ h
    refine E_seq (E_region (EL_in (.bool ((decide (u3 < l5)))) a9 u9 rfl rfl ?_))
    refine EL_nil (thn_n (E_seq ?_))
    rcases csome h with ⟨oB, h⟩ | ⟨oB, h⟩
    ·refine E_ct oB rfl ?_
     refine E_skip (thn_n ?_)
     obtain ⟨⟨n8, k9⟩, hx, h⟩ := bsome h
     refine E_join (fun e w => ∃ (g : Gh) , Fr gI wI g w ∧ e 0 = up0 ∧ RV g.m w (x0 : List Str) up0 ∧ e 2 = p1 ∧ OB 2002 g w 52 (n8 : TieHarness) p1 ∧ OSF 2002 60201 1 g w 3 52 ((n8).Warps) p1 ∧ e 6 = x8 ∧ MP Str.v 8025 g w (k9 : List (Str × Int)) x8 ∧ e 26 = .int .i64 (l5) ∧ e 27 = .int .i64 (u3)) (fun Q' hQ => ?_) (fun nH kI hR => ?_)
     ·replace h := hx
      clear hx
      refine E_block ?_
      refine E_seq (E_region (EL_mv a9 rfl ?_))
      refine EL_at (.int .i64 (u3)) rfl rfl ?_
      refine EL_nil (thn_n (E_seq (E_region (EL_mv rA rfl ?_))))
      refine EL_mw (.int .i64 (u3)) rfl rfl ?_
      obtain ⟨y80, xF, h⟩ := bsome h
      refine EL_do .plain rfl (D_call (g := cF) (vs := [up0, .int .i64 (u3)]) en104 (.cons rfl (.cons rfl .nil)) (wk104 i6 xF) fun cC oH lI hs hr => ?_)
      have hfr := hfr.ext hs
      have i6 := i6.ext hs
      have u2_1_61 := u2_1_61.ext hs
      have x6 := x6.ext hs
      have y6 := y6.ext hs
      subst hr
      refine EL_at (Str.v (y80)) rfl rfl ?_
      refine EL_nil (thn_n (E_seq (E_region (EL_mv l8 rfl ?_))))
      refine EL_mw (Str.v (y80)) rfl rfl ?_
      refine EL_do .plain rfl (D_lookupOk (g := cC) (z0 := (0 : Int)) Tryd.underlying211 key_9 Tryd.zeroValue3 (fun m w => ⟨_, rep_int, rfl⟩) rfl y6 rfl fun mI mG => ?_)
      obtain rfl := RV_int.1 mG
      refine EL_mw (.tuple #[.int .i64 (((mget o0 y80).getD (0 : Int))), .bool ((mget o0 y80).isSome)]) rfl rfl ?_
      refine EL_p (.int .i64 (((mget o0 y80).getD (0 : Int)))) (P_extract rfl rfl) rfl ?_
      refine EL_p (.bool ((mget o0 y80).isSome)) (P_extract rfl rfl) rfl ?_
      refine EL_at (.int .i64 (((mget o0 y80).getD (0 : Int)))) rfl rfl ?_
      refine EL_at (.bool ((mget o0 y80).isSome)) rfl rfl ?_
      refine EL_nil (thn_n ?_)
      obtain ⟨⟨z9, m8⟩, hx, h⟩ := bsome h
      refine E_join (fun e w => ∃ (g : Gh) , Fr gI wI g w ∧ e 0 = up0 ∧ RV g.m w (x0 : List Str) up0 ∧ e 2 = p1 ∧ OB 2002 g w 52 (g8 : TieHarness) p1 ∧ OSF 2002 60201 1 g w 3 52 ((g8).Warps) p1 ∧ e 6 = x8 ∧ MP Str.v 8025 g w (z9 : List (Str × Int)) x8 ∧ e 9 = .int .i64 (m8) ∧ e 26 = .int .i64 (l5) ∧ e 27 = .int .i64 (u3)) (fun Q' hQ => ?_) (fun pH nI hR => ?_)
      ·replace h := hx
       clear hx
       refine E_seq (E_region (EL_mw (.bool ((mget o0 y80).isSome)) rfl rfl ?_))
       refine EL_p (.bool (!((mget o0 y80).isSome))) (P_not rfl) rfl ?_
       refine EL_nil (thn_n ?_)
       rcases csome h with ⟨tB, h⟩ | ⟨tB, h⟩
       ·refine E_ct tB rfl ?_
        refine E_seq (E_region (EL_mv l8 rfl ?_))
        refine EL_do .plain rfl (P_lenMap (g := cC) Tryd.underlying211 rfl y6 ?_)
        refine EL_at (.int .i64 ((o0).length : Int)) rfl rfl ?_
        refine EL_nil (thn_n (E_region (EL_mv l8 rfl ?_)))
        refine EL_mw (Str.v (y80)) rfl rfl ?_
        refine EL_mw (.int .i64 ((o0).length : Int)) rfl rfl ?_
        refine EL_do .plain rfl (D_mapUpdate (g := cC) Tryd.underlying211 key_9 rfl y6 rfl rfl (RV_int.2 rfl) fun sG pI hs m85 => ?_)
        have hfr := hfr.stp hs
        have i6 := i6.stp hs
        have u2_1_61 := u2_1_61.stp hs rfl
        have x6 := x6.stp hs rfl
        refine EL_nil ?_
        obtain ⟨rfl, rfl⟩ := pairs2 h
        exact hQ _ _ ⟨sG, hfr, rA, i6, yA, x6, u2_1_61, l8, m85, rfl, u9, a9⟩
       ·refine E_cf tB rfl ?_
        refine E_skip ?_
        obtain ⟨rfl, rfl⟩ := pairs2 h
        exact hQ _ _ ⟨cC, hfr, rA, i6, yA, x6, u2_1_61, l8, y6, rfl, u9, a9⟩
      ·clear hx
       obtain ⟨dF, hfr, uD, i7, aB, t5, u2_1_86, vD, m7, xD, bD, cD⟩ := hR
       refine E_region (EL_p (fPtr p1 1) (P_fieldAddr at_52_1 aB (OB.ptr t5)) rfl ?_)
       refine EL_do .plain rfl (D_loadFS (g := dF) part_TieHarness_1.1 Tryd.isAgg34 Tryd.sizeOf34 rfl t5 u2_1_86 fun qI eD o88 => ?_)
       refine EL_mv xD rfl ?_
       refine EL_do .plain rfl (D_buildSlice (g := dF) 3049 (xs := ([m8] : List Int)) (vs := [.int .i64 (m8)]) Tryd.underlying34 Tryd.sizeOf3 Tryd.zeroValue3 rfl rfl (.cons rfl .nil) (RVs.cons (RV_int.2 rfl) RVs.nil) rfl rfl fun xG sI tI hs o89 yG hxt hfl => ?_)
       have hfr := hfr.stp hs
       have i7 := i7.stp hs
       have t5 := t5.stp hs rfl
       have m7 := m7.stp hs rfl
       have eD := eD.stp hs
       have o88 := o88.stp hs rfl
       obtain ⟨rC, yF, h⟩ := bsome h
       refine EL_do .plain rfl (D_append (g := xG) (i := 60201) Tryd.underlying34 info_3 rfl rfl o88 eD rfl yG yF fun zG uI vI hs o90 eF _ => ?_)
       have hfr := hfr.stp hs
       have i7 := i7.stp hs
       have t5 := t5.stp hs rfl
       have m7 := m7.stp hs rfl
       refine EL_p (fPtr p1 1) (P_fieldAddr at_52_1 aB (OB.ptr t5)) rfl ?_
       refine EL_do .plain rfl (D_storeFc (g := zG) part_TieHarness_1 Tryd.sizeOf34 rfl t5 rfl eF fun aH yI hs b93 rst hos => ?_)
       have yD := hos _ _ 60201 3 (rC : List Int) (rv_cells1 eF) rfl o90
       clear rst hos
       have hfr := hfr.stp hs
       have i7 := i7.stp hs
       have m7 := m7.stp hs rfl
       refine EL_nil (blk_n ?_)
       obtain ⟨rfl, rfl⟩ := pairs2 h
       exact hQ _ _ ⟨aH, hfr, uD, i7, aB, b93, yD, vD, m7, bD, cD⟩
     ·clear hx
      obtain ⟨cH, hfr, zD, aE, bE, iE, u2_1_94, lE, mE, gD, iD⟩ := hR
      refine E_region (EL_in (.int .i64 ((w64 (u3 + (1 : Int))))) iD rfl rfl rfl ?_)
      refine EL_mw (.int .i64 ((w64 (u3 + (1 : Int))))) rfl rfl ?_
      exact EL_nil (thn_n (vF (n8, k9, (w64 (u3 + (1 : Int)))) _ _ ⟨cH, hfr, zD, aE, bE, iE, u2_1_94, lE, mE, gD, rfl⟩ h))
    ·refine E_cf oB rfl ?_
     refine E_exit ?_
     refine thn_e ?_
     refine thn_e ?_
     refine blk_hit ?_
     obtain ⟨rfl, rfl⟩ := pairs2 h
     exact hQ _ _ ⟨cF, hfr, yA, x6, u2_1_61, l8, y6⟩
   ·clear hx
    obtain ⟨rF, hfr, d9, mC, u2_1_95, oE, rE⟩ := hR
    refine E_joinC h (fun (s : TieHarness) e w => ∃ (g : Gh) , Fr gI wI g w ∧ e 2 = p1 ∧ OB 2002 g w 52 (s : TieHarness) p1 ∧ OSF 2002 60201 1 g w 3 52 ((s).Warps) p1) (fun X104 uC uE h => ?_) ?_
    ·refine E_seq (E_region (EL_mv oE rfl ?_))
     refine EL_do .plain rfl (P_lenMap (g := rF) Tryd.underlying211 rfl rE ?_)
     refine EL_p (fPtr p1 0) (P_fieldAddr at_52_0 d9 (OB.ptr mC)) rfl ?_
     refine EL_do .plain rfl (D_storeFc (g := rF) part_TieHarness_0 Tryd.sizeOf3 rfl mC rfl (RV_int.2 rfl) fun dB zF hs b106 rst hos => ?_)
     have u2_1_95 := u2_1_95.rest hs rst
     clear rst hos
     have hfr := hfr.stp hs
     refine EL_nil (thn_n (E_seq (E_region (EL_p (fPtr p1 0) (P_fieldAddr at_52_0 d9 (OB.ptr b106)) rfl ?_))))
     refine EL_do .plain rfl (D_loadF (g := dB) part_TieHarness_0.1 Tryd.isAgg3 Tryd.sizeOf3 rfl b106 fun qH aG => ?_)
     obtain rfl := RV_int.1 aG
     refine EL_p (.bool ((decide (({ x5 with Hooks := ((k8).length : Int) }).Hooks > (24 : Int))))) (P_int rfl rfl rfl) rfl ?_
     refine EL_nil (thn_n ?_)
     rcases csome h with ⟨iB, h⟩ | ⟨iB, h⟩
     ·refine E_ct iB rfl ?_
      refine E_seq (E_region ?_)
      have jD : RV dB.m zF (⟨0, []⟩ : TieHarness) (.agg (setCh [[.int .i64 0], [.slice none 0 0]] []).flatten.toArray) := RV_build rfl (rep_pair (rep_int) (rep_last (rep_nil)))
      generalize qC : (Value.agg (setCh [[.int .i64 0], [.slice none 0 0]] []).flatten.toArray) = lD at jD
      refine EL_p lD (qC ▸ P_build (vs := []) [[.int .i64 0], [.slice none 0 0]] lay_52 rfl rfl .nil trivial) rfl ?_
      refine EL_do .plain rfl (D_storeOc (g := dB) (v := lD) Tryd.sizeOf52 d9 b106 rfl jD fun bG cG hs b111 cb => ?_)
      have dH : OSF 2002 60201 1 bG cG 3 52 ([] : List Int) p1 := cb.osf (by rw [← qC]; rfl)
      clear cb
      have hfr := hfr.stp hs
      refine EL_at (.int .i64 (8)) rfl rfl ?_
      refine EL_nil (thn_n (E_ret (thn_r ?_)))
      obtain rfl := sinj h
      obtain ⟨ad112, cv112, hp112, vE, cr112⟩ := ob_read Tryd.isAgg52 Tryd.sizeOf52 b111
      exact endm_ct rfl rfl ((show _ = p1 from d9).trans hp112) vE (show _ = .int .i64 (8) from rfl) ⟨_, hfr, _, _, rfl, cr112, rfl⟩
     ·refine E_cf iB rfl ?_
      exact E_skip (thn_n (uE ({ x5 with Hooks := ((k8).length : Int) }) _ _ ⟨dB, hfr, d9, b106, u2_1_95⟩ h))
    ·rintro lB gH sH ⟨nD, hfr, y9, mB, u2_1_113⟩ h
     refine E_seq (E_region (EL_do .plain rfl (D_loadO (g := nD) Tryd.isAgg52 Tryd.sizeOf52 y9 mB fun eG gG => ?_)))
     refine EL_do .plain rfl (D_storeOc (g := nD) (v := eG) Tryd.sizeOf52 y9 mB rfl gG fun tH uH hs b115 cb => ?_)
     clear cb
     have hfr := hfr.stp hs
     refine EL_at (.int .i64 (0)) rfl rfl ?_
     refine EL_nil (thn_n (E_ret ?_))
     obtain rfl := sinj h
     obtain ⟨ad116, cv116, hp116, xE, cr116⟩ := ob_read Tryd.isAgg52 Tryd.sizeOf52 b115
     exact endm_ct rfl rfl ((show _ = p1 from y9).trans hp116) xE (show _ = .int .i64 (0) from rfl) ⟨_, hfr, _, _, rfl, cr116, rfl⟩
def f63 (x0 : Int) (x1 : List TieGroup) : Option (TieHarness × Int × Int) :=
 jn (σ := TieHarness) (fun yD =>
  jn (σ := TieHarness × (List Int)) (fun (eF, y9) =>
   some ((⟨x0, y9⟩ : TieHarness), (0 : Int), (0 : Int))
   ) fun rF =>
  lp (σ := TieHarness × (List Int) × Int) (fun sF (m7, g8, u3) =>
   bif (decide (u3 < ((x1).length : Int))) then
    jn (σ := TieHarness × (List Int)) (fun (aB, dB) =>
     sF (aB, dB, (w64 (u3 + (1 : Int))))
     ) fun tF =>
    (idx x1 u3).bind fun l5 =>
    jn (σ := TieHarness) (fun z9 =>
     (f111 ((⟨l5⟩ : TieTieGroup))).bind fun rA =>
     (f110 rA ((l5).Times)).bind fun iB =>
     (apnd 8 g8 iB).bind fun yA =>
     bif (decide (((yA).length : Int) > (96 : Int))) then
      some (z9, u3, (8 : Int))
     else
      tF (z9, yA)
     ) fun uF =>
    Option.bind (α := Bool) (
     (f98 ((0 : Int)) ((w64 (x0 - (1 : Int)))) (([(l5).First, (l5).Last] : List Int))).bind fun u9 =>
     bif (!u9) then
      some (true)
     else
      bif ((l5).Way != (1 : Int)) then
       bif ((l5).Way != (2 : Int)) then
        some (true)
       else
        (f98 ((1 : Int)) ((8 : Int)) (([(l5).Times] : List Int))).bind fun mC =>
        some ((!mC))
      else
       (f98 ((1 : Int)) ((8 : Int)) (([(l5).Times] : List Int))).bind fun qC =>
       some ((!qC))
     ) fun r8 =>
    bif r8 then
     some (m7, u3, (2 : Int))
    else
     uF (m7)
   else
    rF (m7, g8)
   ) big (yD, [], (0 : Int))
  ) fun qI =>
 (f98 ((1 : Int)) ((24 : Int)) (([x0] : List Int))).bind fun zD =>
 bif (!zD) then
  some ((⟨0, []⟩ : TieHarness), (0 : Int), (2 : Int))
 else
  bif (decide (((x1).length : Int) > (8 : Int))) then
   some ((⟨0, []⟩ : TieHarness), (0 : Int), (5 : Int))
  else
   bif (((x1).length : Int) == (0 : Int)) then
    some ((⟨0, []⟩ : TieHarness), (0 : Int), (7 : Int))
   else
    qI ((⟨0, []⟩ : TieHarness))
theorem en63 : Enters Tryd.prog 63 := enters_of Tryd.func63 (by kernel_rfl) rfl
theorem wk63 {gI : Gh} {wI : World} {x0 : Int} {x1 : List TieGroup} {up1 : Value} (rp1 : RV gI.m wI x1 up1) {r : TieHarness × Int × Int} (h : f63 x0 x1 = some r) : Fn Tryd.prog 63 #[.int .i64 (x0), up1] gI wI (fun m w v => ∃ y0 y1 y2, v = .tuple #[y0, y1, y2] ∧ RV m w (r.1) y0 ∧ y1 = .int .i64 (r.2.1) ∧ y2 = .int .i64 (r.2.2)) := by
 unfold f63 at h
 refine fn_of_E Tryd.func63 rfl (Nat.le_of_ble_eq_true rfl) fun g0 hm hfr => ?_
 have rp1 : RV g0.m wI x1 up1 := hm ▸ rp1
 show E _ 78 none _ _ _ _ _
 refine E_seq (E_region (EL_do .plain rfl (D_allocOc (g := g0) 2004 (⟨0, []⟩ : TieHarness) Tryd.zeroValue52 (fun m w => ⟨_, (rep_two rep_int rep_nil), rfl⟩) fun g1 w1 p1 hs b1 cb => ?_)))
 have hfr := hfr.stp hs
 have rp1 := rp1.stp hs
 have lB : OSF 2004 60401 1 g1 w1 3 52 ([] : List Int) p1 := cb.osf (by rfl)
 clear cb
 refine EL_at (.int .i64 (0)) rfl rfl ?_
 refine EL_at (.int .i64 (0)) rfl rfl ?_
 refine EL_nil (thn_n (E_joinC h (fun (s : TieHarness) e w => ∃ (g : Gh) , Fr gI wI g w ∧ e 0 = .int .i64 (x0) ∧ e 1 = up1 ∧ RV g.m w (x1 : List TieGroup) up1 ∧ e 4 = p1 ∧ OB 2004 g w 52 (s : TieHarness) p1 ∧ OSF 2004 60401 1 g w 3 52 ((s).Warps) p1) (fun X17 qI sI h => ?_) ?_))
 ·refine E_block ?_
  refine E_seq (E_region (EL_mw (.int .i64 (x0)) rfl rfl ?_))
  refine EL_do .plain rfl (D_buildSlice (g := g1) 3012 (xs := ([x0] : List Int)) (vs := [.int .i64 (x0)]) Tryd.underlying34 Tryd.sizeOf3 Tryd.zeroValue3 rfl rfl (.cons rfl .nil) (RVs.cons (RV_int.2 rfl) RVs.nil) rfl rfl fun xK jN yK hs o18 zK hxt hfl => ?_)
  have hfr := hfr.stp hs
  have rp1 := rp1.stp hs
  have lB := lB.stp hs rfl
  have b1 := b1.stp hs rfl
  obtain ⟨zD, hy20, h⟩ := bsome h
  refine EL_do .plain rfl (D_call (g := xK) (vs := [.int .i64 (1), .int .i64 (24), yK]) en98 (.cons rfl (.cons rfl (.cons rfl .nil))) (wk98 zK hy20) fun mB vL kN hs hr => ?_)
  have hfr := hfr.ext hs
  have rp1 := rp1.ext hs
  have lB := lB.ext hs
  have b1 := b1.ext hs
  subst hr
  refine EL_p (.bool (!zD)) (P_not rfl) rfl ?_
  refine EL_at (.bool (!zD)) rfl rfl ?_
  refine EL_nil (thn_n ?_)
  rcases csome h with ⟨gD, h⟩ | ⟨gD, h⟩
  ·refine E_ct gD rfl ?_
   refine E_seq (E_region (EL_do .plain rfl (D_loadO (g := mB) Tryd.isAgg52 Tryd.sizeOf52 rfl b1 fun aL bL => ?_)))
   refine EL_do .plain rfl (D_storeOc (g := mB) (v := aL) Tryd.sizeOf52 rfl b1 rfl bL fun lN mN hs b23 cb => ?_)
   clear cb
   have hfr := hfr.stp hs
   refine EL_at (.int .i64 (0)) rfl rfl ?_
   refine EL_at (.int .i64 (2)) rfl rfl ?_
   refine EL_nil (thn_n (E_ret (blk_r ?_)))
   refine thn_r ?_
   obtain rfl := sinj h
   obtain ⟨ad24, cv24, hp24, tI, cr24⟩ := ob_read Tryd.isAgg52 Tryd.sizeOf52 b23
   exact endm_ctt rfl rfl ((show _ = p1 from rfl).trans hp24) tI (show _ = .int .i64 (0) from rfl) (show _ = .int .i64 (2) from rfl) ⟨_, hfr, _, _, _, rfl, cr24, rfl, rfl⟩
  ·refine E_cf gD rfl ?_
   refine E_seq (E_region (EL_mw up1 rfl rfl ?_))
   refine EL_p (.int .i64 ((x1).length : Int)) (P_len Tryd.underlying149 rfl rp1) rfl ?_
   refine EL_in (.bool ((decide (((x1).length : Int) > (8 : Int))))) rfl rfl rfl rfl ?_
   refine EL_at (.bool ((decide (((x1).length : Int) > (8 : Int))))) rfl rfl ?_
   refine EL_nil (thn_n ?_)
   rcases csome h with ⟨iD, h⟩ | ⟨iD, h⟩
   ·refine E_ct iD rfl ?_
    refine E_seq (E_region (EL_do .plain rfl (D_loadO (g := mB) Tryd.isAgg52 Tryd.sizeOf52 rfl b1 fun dL eL => ?_)))
    refine EL_do .plain rfl (D_storeOc (g := mB) (v := dL) Tryd.sizeOf52 rfl b1 rfl eL fun nN oN hs b27 cb => ?_)
    clear cb
    have hfr := hfr.stp hs
    refine EL_at (.int .i64 (0)) rfl rfl ?_
    refine EL_at (.int .i64 (5)) rfl rfl ?_
    refine EL_nil (thn_n (E_ret (blk_r ?_)))
    refine thn_r ?_
    obtain rfl := sinj h
    obtain ⟨ad28, cv28, hp28, uI, cr28⟩ := ob_read Tryd.isAgg52 Tryd.sizeOf52 b27
    exact endm_ctt rfl rfl ((show _ = p1 from rfl).trans hp28) uI (show _ = .int .i64 (0) from rfl) (show _ = .int .i64 (5) from rfl) ⟨_, hfr, _, _, _, rfl, cr28, rfl, rfl⟩
   ·refine E_cf iD rfl ?_
    refine E_seq (E_region (EL_mw up1 rfl rfl ?_))
    refine EL_p (.int .i64 ((x1).length : Int)) (P_len Tryd.underlying149 rfl rp1) rfl ?_
    refine EL_in (.bool ((((x1).length : Int) == (0 : Int)))) rfl rfl rfl rfl ?_
    refine EL_at (.bool ((((x1).length : Int) == (0 : Int)))) rfl rfl ?_
    refine EL_nil (thn_n ?_)
    rcases csome h with ⟨jD, h⟩ | ⟨jD, h⟩
    ·refine E_ct jD rfl ?_
     refine E_seq (E_region (EL_do .plain rfl (D_loadO (g := mB) Tryd.isAgg52 Tryd.sizeOf52 rfl b1 fun gL iL => ?_)))
     refine EL_do .plain rfl (D_storeOc (g := mB) (v := gL) Tryd.sizeOf52 rfl b1 rfl iL fun pN qN hs b31 cb => ?_)
     clear cb
     have hfr := hfr.stp hs
     refine EL_at (.int .i64 (0)) rfl rfl ?_
     refine EL_at (.int .i64 (7)) rfl rfl ?_
     refine EL_nil (thn_n (E_ret (blk_r ?_)))
     refine thn_r ?_
     obtain rfl := sinj h
     obtain ⟨ad32, cv32, hp32, vI, cr32⟩ := ob_read Tryd.isAgg52 Tryd.sizeOf52 b31
     exact endm_ctt rfl rfl ((show _ = p1 from rfl).trans hp32) vI (show _ = .int .i64 (0) from rfl) (show _ = .int .i64 (7) from rfl) ⟨_, hfr, _, _, _, rfl, cr32, rfl, rfl⟩
    ·refine E_cf jD rfl ?_
     exact E_skip (blk_n (thn_n (sI ((⟨0, []⟩ : TieHarness)) _ _ ⟨mB, hfr, rfl, rfl, rp1, rfl, b1, lB⟩ h)))
 ·rintro yD xL rN ⟨jL, hfr, nH, oH, aE, pH, qH, u4_1_33⟩ h
  refine E_seq (E_region (EL_at (.slice none 0 0) rfl rfl ?_))
  refine EL_nil (thn_n (E_joinC h (fun (s : TieHarness × (List Int)) e w => ∃ (g : Gh) (v7 : Value), Fr gI wI g w ∧ e 0 = .int .i64 (x0) ∧ e 4 = p1 ∧ OB 2004 g w 52 (s.1 : TieHarness) p1 ∧ OSF 2004 60401 1 g w 3 52 ((s.1).Warps) p1 ∧ e 7 = v7 ∧ RV g.m w (s.2 : List Int) v7 ∧ OS 1007 g w 3 (s.2 : List Int) v7) (fun X326 rF sH h => ?_) ?_))
  ·refine E_seq (E_region (EL_mv oH rfl ?_))
   refine EL_p (.int .i64 ((x1).length : Int)) (P_len Tryd.underlying149 rfl aE) rfl ?_
   refine EL_mw (.int .i64 (0)) rfl rfl ?_
   refine EL_nil (thn_n (E_block ?_))
   refine E_lp h (fun (s : TieHarness × (List Int) × Int) e w => ∃ (g : Gh) (v7 : Value), Fr gI wI g w ∧ e 0 = .int .i64 (x0) ∧ e 4 = p1 ∧ OB 2004 g w 52 (s.1 : TieHarness) p1 ∧ OSF 2004 60401 1 g w 3 52 ((s.1).Warps) p1 ∧ e 7 = v7 ∧ RV g.m w (s.2.1 : List Int) v7 ∧ OS 1007 g w 3 (s.2.1 : List Int) v7 ∧ e 26 = up1 ∧ RV g.m w (x1 : List TieGroup) up1 ∧ e 27 = .int .i64 (((x1).length : Int)) ∧ e 28 = .int .i64 (s.2.2)) ⟨jL, (.slice none 0 0), hfr, nH, pH, qH, u4_1_33, rfl, RV_nil, OS.nil, rfl, aE, rfl, rfl⟩ (fun X327 sF tH => ?_)
   rintro ⟨m7, g8, u3⟩ mL yL ⟨lD, k8, hfr, v8, k9, t5, u4_1_328, l9, x5, i6, x8, o0, a9, y6⟩ h
   refine E_seq (E_region (EL_in (.bool ((decide (u3 < ((x1).length : Int))))) y6 a9 rfl rfl ?_))
   refine EL_nil (thn_n (E_seq ?_))
   rcases csome h with ⟨rC, h⟩ | ⟨rC, h⟩
   ·refine E_ct rC rfl ?_
    refine E_skip (thn_n (E_joinC h (fun (s : TieHarness × (List Int)) e w => ∃ (g : Gh) (v7 : Value), Fr gI wI g w ∧ e 0 = .int .i64 (x0) ∧ e 4 = p1 ∧ OB 2004 g w 52 (s.1 : TieHarness) p1 ∧ OSF 2004 60401 1 g w 3 52 ((s.1).Warps) p1 ∧ e 7 = v7 ∧ RV g.m w (s.2 : List Int) v7 ∧ OS 1007 g w 3 (s.2 : List Int) v7 ∧ e 26 = up1 ∧ RV g.m w (x1 : List TieGroup) up1 ∧ e 27 = .int .i64 (((x1).length : Int)) ∧ e 28 = .int .i64 (u3)) (fun X473 tF uH h => ?_) ?_))
    ·refine E_block ?_
     refine E_seq (E_region (EL_mv y6 rfl ?_))
     obtain ⟨l5, bE, h⟩ := bsome h
     refine EL_p (ePtr up1 u3 4) (P_indexAddr (α := TieGroup) Tryd.underlying149 Tryd.sizeOf148 x8 o0 y6 bE) rfl ?_
     have yI := PT_idx o0 bE
     refine EL_do .plain rfl (D_load (g := lD) Tryd.isAgg148 Tryd.sizeOf148 rfl yI fun zI nD => ?_)
     refine EL_do .plain rfl (D_allocOc (g := lD) 2009 (⟨0, 0, 0, 0⟩ : TieGroup) Tryd.zeroValue148 (fun m w => ⟨_, (rep_two rep_int (rep_two rep_int (rep_two rep_int rep_int))), rfl⟩) fun eJ zL m8 hs b477 cb => ?_)
     have hfr := hfr.stp hs
     have u4_1_328 := u4_1_328.stp hs rfl
     have t5 := t5.stp hs rfl
     have x5 := x5.stp hs
     have i6 := i6.stp hs rfl
     have o0 := o0.stp hs
     have nD := nD.stp hs
     clear cb
     refine EL_at (.int .i64 (u3)) rfl rfl ?_
     refine EL_do .plain rfl (D_storeOc (g := eJ) (v := zI) Tryd.sizeOf148 rfl b477 rfl nD fun oD aM hs b478 cb => ?_)
     clear cb
     have hfr := hfr.stp hs
     have u4_1_328 := u4_1_328.stp hs rfl
     have t5 := t5.stp hs rfl
     have x5 := x5.stp hs
     have i6 := i6.stp hs rfl
     have o0 := o0.stp hs
     refine EL_nil (thn_n (E_joinC h (fun (s : TieHarness) e w => ∃ (g : Gh) , Fr gI wI g w ∧ e 0 = .int .i64 (x0) ∧ e 4 = p1 ∧ OB 2004 g w 52 (s : TieHarness) p1 ∧ OSF 2004 60401 1 g w 3 52 ((s).Warps) p1 ∧ e 7 = k8 ∧ RV g.m w (g8 : List Int) k8 ∧ OS 1007 g w 3 (g8 : List Int) k8 ∧ e 8 = .int .i64 (u3) ∧ e 9 = m8 ∧ OB 2009 g w 148 (l5 : TieGroup) m8 ∧ e 26 = up1 ∧ RV g.m w (x1 : List TieGroup) up1 ∧ e 27 = .int .i64 (((x1).length : Int)) ∧ e 28 = .int .i64 (u3)) (fun X532 uF xH h => ?_) ?_))
     ·obtain ⟨r8, hx, h⟩ := bsome h
      refine E_join (fun e w => ∃ (g : Gh) , Fr gI wI g w ∧ e 0 = .int .i64 (x0) ∧ e 4 = p1 ∧ OB 2004 g w 52 (m7 : TieHarness) p1 ∧ OSF 2004 60401 1 g w 3 52 ((m7).Warps) p1 ∧ e 7 = k8 ∧ RV g.m w (g8 : List Int) k8 ∧ OS 1007 g w 3 (g8 : List Int) k8 ∧ e 8 = .int .i64 (u3) ∧ e 9 = m8 ∧ OB 2009 g w 148 (l5 : TieGroup) m8 ∧ e 26 = up1 ∧ RV g.m w (x1 : List TieGroup) up1 ∧ e 27 = .int .i64 (((x1).length : Int)) ∧ e 28 = .int .i64 (u3) ∧ e 58 = .bool (r8)) (fun Q' hQ => ?_) (fun nL bM hR => ?_)
      ·replace h := hx
       clear hx
       refine E_region (EL_mv v8 rfl ?_)
       refine EL_in (.int .i64 ((w64 (x0 - (1 : Int))))) rfl rfl rfl rfl ?_
       refine EL_p (fPtr m8 0) (P_fieldAddr at_148_0 rfl (OB.ptr b478)) rfl ?_
       refine EL_do .plain rfl (D_loadF (g := oD) part_TieGroup_0.1 Tryd.isAgg3 Tryd.sizeOf3 rfl b478 fun cM gJ => ?_)
       obtain rfl := RV_int.1 gJ
       refine EL_p (fPtr m8 1) (P_fieldAddr at_148_1 rfl (OB.ptr b478)) rfl ?_
       refine EL_do .plain rfl (D_loadF (g := oD) part_TieGroup_1.1 Tryd.isAgg3 Tryd.sizeOf3 rfl b478 fun dM iJ => ?_)
       obtain rfl := RV_int.1 iJ
       refine EL_do .plain rfl (D_buildSlice (g := oD) 3039 (xs := ([(l5).First, (l5).Last] : List Int)) (vs := [.int .i64 ((l5).First), .int .i64 ((l5).Last)]) Tryd.underlying34 Tryd.sizeOf3 Tryd.zeroValue3 rfl rfl (.cons rfl (.cons rfl .nil)) (RVs.cons (RV_int.2 rfl) (RVs.cons (RV_int.2 rfl) RVs.nil)) rfl rfl fun jJ eM kJ hs o561 lJ hxt hfl => ?_)
       have hfr := hfr.stp hs
       have u4_1_328 := u4_1_328.stp hs rfl
       have t5 := t5.stp hs rfl
       have x5 := x5.stp hs
       have i6 := i6.stp hs rfl
       have o0 := o0.stp hs
       have b478 := b478.stp hs rfl
       obtain ⟨u9, yH, h⟩ := bsome h
       refine EL_do .plain rfl (D_call (g := jJ) (vs := [.int .i64 (0), .int .i64 ((w64 (x0 - (1 : Int)))), kJ]) en98 (.cons rfl (.cons rfl (.cons rfl .nil))) (wk98 lJ yH) fun n9 oL iM hs hr => ?_)
       have hfr := hfr.ext hs
       have u4_1_328 := u4_1_328.ext hs
       have t5 := t5.ext hs
       have x5 := x5.ext hs
       have i6 := i6.ext hs
       have o0 := o0.ext hs
       have b478 := b478.ext hs
       subst hr
       refine EL_p (.bool (!u9)) (P_not rfl) rfl ?_
       refine EL_mw (.bool (!u9)) rfl rfl ?_
       rcases csome h with ⟨x6, h⟩ | ⟨x6, h⟩
       ·refine EL_s rfl rfl x6 rfl rfl ?_
        iterate 3 refine EL_s rfl rfl x6 rfl rfl ?_
        refine EL_dead 3 rfl ?_
        refine EL_s rfl rfl x6 rfl rfl ?_
        refine EL_p (.bool true) (P_pick (b := (!u9)) rfl (pick_t x6 rfl)) rfl ?_
        refine EL_dead 7 rfl ?_
        refine EL_nil ?_
        obtain rfl := sinj h
        exact hQ _ _ ⟨n9, hfr, v8, k9, t5, u4_1_328, l9, x5, i6, rfl, rfl, b478, x8, o0, a9, y6, rfl⟩
       ·refine EL_y (fPtr m8 2) (P_fieldAddr at_148_2 rfl (OB.ptr b478)) rfl rfl x6 rfl ?_
        refine EL_do (.yes2 rfl rfl x6) rfl (D_loadF (g := n9) part_TieGroup_2.1 Tryd.isAgg146 Tryd.sizeOf146 rfl b478 fun jM mJ => ?_)
        obtain rfl := RV_int.1 mJ
        refine EL_y (.bool (((l5).Way != (1 : Int)))) (P_int rfl rfl rfl) rfl rfl x6 rfl ?_
        refine EL_y (.bool (((l5).Way != (1 : Int)))) (P_move rfl) rfl rfl x6 rfl ?_
        rcases csome h with ⟨l8, h⟩ | ⟨l8, h⟩
        ·refine EL_y (fPtr m8 2) (P_fieldAddr at_148_2 rfl (OB.ptr b478)) rfl rfl l8 rfl ?_
         refine EL_do (.yes2 rfl rfl l8) rfl (D_loadF (g := n9) part_TieGroup_2.1 Tryd.isAgg146 Tryd.sizeOf146 rfl b478 fun kM nJ => ?_)
         obtain rfl := RV_int.1 nJ
         refine EL_y (.bool (((l5).Way != (2 : Int)))) (P_int rfl rfl rfl) rfl rfl l8 rfl ?_
         refine EL_y (.bool (((l5).Way != (2 : Int)))) (P_pick (b := ((l5).Way != (1 : Int))) rfl (pick_t l8 rfl)) rfl rfl x6 rfl ?_
         refine EL_p (.bool (((l5).Way != (2 : Int)))) (P_pick (b := (!u9)) rfl (pick_f x6 rfl)) rfl ?_
         refine EL_mw (.bool (((l5).Way != (2 : Int)))) rfl rfl ?_
         rcases csome h with ⟨i7, h⟩ | ⟨i7, h⟩
         ·refine EL_s rfl rfl i7 rfl rfl ?_
          iterate 4 refine EL_s rfl rfl i7 rfl rfl ?_
          refine EL_p (.bool true) (P_pick (b := ((l5).Way != (2 : Int))) rfl (pick_t i7 rfl)) rfl ?_
          refine EL_nil ?_
          obtain rfl := sinj h
          exact hQ _ _ ⟨n9, hfr, v8, k9, t5, u4_1_328, l9, x5, i6, rfl, rfl, b478, x8, o0, a9, y6, rfl⟩
         ·refine EL_y (fPtr m8 3) (P_fieldAddr at_148_3 rfl (OB.ptr b478)) rfl rfl i7 rfl ?_
          refine EL_do (.yes2 rfl rfl i7) rfl (D_loadF (g := n9) part_TieGroup_3.1 Tryd.isAgg3 Tryd.sizeOf3 rfl b478 fun mM oJ => ?_)
          obtain rfl := RV_int.1 oJ
          refine EL_do (.yes2 rfl rfl i7) rfl (D_buildSlice (g := n9) 3055 (xs := ([(l5).Times] : List Int)) (vs := [.int .i64 ((l5).Times)]) Tryd.underlying34 Tryd.sizeOf3 Tryd.zeroValue3 rfl rfl (.cons rfl .nil) (RVs.cons (RV_int.2 rfl) RVs.nil) rfl rfl fun pJ nM qJ hs o573 rJ hxt hfl => ?_)
          have hfr := hfr.stp hs
          have u4_1_328 := u4_1_328.stp hs rfl
          have t5 := t5.stp hs rfl
          have x5 := x5.stp hs
          have i6 := i6.stp hs rfl
          have o0 := o0.stp hs
          have b478 := b478.stp hs rfl
          obtain ⟨mC, zH, h⟩ := bsome h
          refine EL_do (.yes2 rfl rfl i7) rfl (D_call (g := pJ) (vs := [.int .i64 (1), .int .i64 (8), qJ]) en98 (.cons rfl (.cons rfl (.cons rfl .nil))) (wk98 rJ zH) fun sJ pL oM hs hr => ?_)
          have hfr := hfr.ext hs
          have u4_1_328 := u4_1_328.ext hs
          have t5 := t5.ext hs
          have x5 := x5.ext hs
          have i6 := i6.ext hs
          have o0 := o0.ext hs
          have b478 := b478.ext hs
          subst hr
          refine EL_y (.bool (!mC)) (P_not rfl) rfl rfl i7 rfl ?_
          refine EL_p (.bool (!mC)) (P_pick (b := ((l5).Way != (2 : Int))) rfl (pick_f i7 rfl)) rfl ?_
          refine EL_nil ?_
          obtain rfl := sinj h
          exact hQ _ _ ⟨sJ, hfr, v8, k9, t5, u4_1_328, l9, x5, i6, rfl, rfl, b478, x8, o0, a9, y6, rfl⟩
        ·refine EL_s rfl rfl l8 rfl rfl ?_
         refine EL_s rfl rfl l8 rfl rfl ?_
         refine EL_s rfl rfl l8 rfl rfl ?_
         refine EL_y (.bool false) (P_pick (b := ((l5).Way != (1 : Int))) rfl (pick_f l8 rfl)) rfl rfl x6 rfl ?_
         refine EL_p (.bool false) (P_pick (b := (!u9)) rfl (pick_f x6 rfl)) rfl ?_
         refine EL_mw (.bool false) rfl rfl ?_
         refine EL_y (fPtr m8 3) (P_fieldAddr at_148_3 rfl (OB.ptr b478)) rfl rfl rfl rfl ?_
         refine EL_do (.yes2 rfl rfl rfl) rfl (D_loadF (g := n9) part_TieGroup_3.1 Tryd.isAgg3 Tryd.sizeOf3 rfl b478 fun pM vJ => ?_)
         obtain rfl := RV_int.1 vJ
         refine EL_do (.yes2 rfl rfl rfl) rfl (D_buildSlice (g := n9) 3055 (xs := ([(l5).Times] : List Int)) (vs := [.int .i64 ((l5).Times)]) Tryd.underlying34 Tryd.sizeOf3 Tryd.zeroValue3 rfl rfl (.cons rfl .nil) (RVs.cons (RV_int.2 rfl) RVs.nil) rfl rfl fun xJ qM yJ hs o578 zJ hxt hfl => ?_)
         have hfr := hfr.stp hs
         have u4_1_328 := u4_1_328.stp hs rfl
         have t5 := t5.stp hs rfl
         have x5 := x5.stp hs
         have i6 := i6.stp hs rfl
         have o0 := o0.stp hs
         have b478 := b478.stp hs rfl
         obtain ⟨qC, aI, h⟩ := bsome h
         refine EL_do (.yes2 rfl rfl rfl) rfl (D_call (g := xJ) (vs := [.int .i64 (1), .int .i64 (8), yJ]) en98 (.cons rfl (.cons rfl (.cons rfl .nil))) (wk98 zJ aI) fun aK qL rM hs hr => ?_)
         have hfr := hfr.ext hs
         have u4_1_328 := u4_1_328.ext hs
         have t5 := t5.ext hs
         have x5 := x5.ext hs
         have i6 := i6.ext hs
         have o0 := o0.ext hs
         have b478 := b478.ext hs
         subst hr
         refine EL_y (.bool (!qC)) (P_not rfl) rfl rfl rfl rfl ?_
         refine EL_p (.bool (!qC)) (P_pick (b := false) rfl (pick_f rfl rfl)) rfl ?_
         refine EL_nil ?_
         obtain rfl := sinj h
         exact hQ _ _ ⟨aK, hfr, v8, k9, t5, u4_1_328, l9, x5, i6, rfl, rfl, b478, x8, o0, a9, y6, rfl⟩
      ·clear hx
       obtain ⟨sD, hfr, vF, bA, nB, u4_1_581, xF, yF, zF, bD, aG, bG, lE, mE, oE, rE, cC⟩ := hR
       rcases csome h with ⟨uC, h⟩ | ⟨uC, h⟩
       ·refine E_cond_true (Eq.trans (show ev _ _ = .bool (r8) from cC) (congrArg Value.bool uC)) ?_
        refine E_seq (E_region (EL_do .plain rfl (D_loadO (g := sD) Tryd.isAgg52 Tryd.sizeOf52 bA nB fun bK cK => ?_)))
        refine EL_mv bD rfl ?_
        refine EL_do .plain rfl (D_storeOc (g := sD) (v := bK) Tryd.sizeOf52 bA nB rfl cK fun sM tM hs b584 cb => ?_)
        clear cb
        have hfr := hfr.stp hs
        refine EL_at (.int .i64 (u3)) rfl rfl ?_
        refine EL_at (.int .i64 (2)) rfl rfl ?_
        refine EL_nil (thn_n (E_ret (thn_r ?_)))
        refine blk_r ?_
        refine thn_r ?_
        refine thn_r ?_
        refine blk_r ?_
        refine thn_r ?_
        obtain rfl := sinj h
        obtain ⟨ad585, cv585, hp585, bI, cr585⟩ := ob_read Tryd.isAgg52 Tryd.sizeOf52 b584
        exact endm_ctt rfl rfl ((show _ = p1 from bA).trans hp585) bI (show _ = .int .i64 (u3) from rfl) (show _ = .int .i64 (2) from rfl) ⟨_, hfr, _, _, _, rfl, cr585, rfl, rfl⟩
       ·refine E_cond_false (Eq.trans (show ev _ _ = .bool (r8) from cC) (congrArg Value.bool uC)) ?_
        exact E_skip (thn_n (xH (m7) _ _ ⟨sD, hfr, vF, bA, nB, u4_1_581, xF, yF, zF, bD, aG, bG, lE, mE, oE, rE⟩ h))
     ·rintro z9 rL uM ⟨cG, hfr, eG, iA, n8, u4_1_586, gG, oB, tB, hG, cD, vB, uE, d9, vE, xE⟩ h
      refine E_seq (L_loadO0 (x := .tmp 9) Tryd.isAgg148 Tryd.sizeOf148 vB fun vC iG dI => ?_)
      have jG : RV cG.m _ (⟨l5⟩ : TieTieGroup) (.agg (setCh [[.int .i64 0, .int .i64 0, .int .i64 0, .int .i64 0]] [(0, vC)]).flatten.toArray) := RV_build rfl (rep_last (RV.cells iG))
      generalize iI : (Value.agg (setCh [[.int .i64 0, .int .i64 0, .int .i64 0, .int .i64 0]] [(0, vC)]).flatten.toArray) = kG at jG
      obtain ⟨rA, jI, h⟩ := bsome h
      refine L_loadO (x := .tmp 65) part_TieGroup_3.1 Tryd.isAgg3 Tryd.sizeOf3 vB fun vM dK kI => ?_
      obtain rfl := RV_int.1 dK
      obtain ⟨iB, lI, h⟩ := bsome h
      refine E_drawL (g := cG) (n := 7) [(3, (fun v g w => RV g.m w rA v)), (6, (fun v g w => RV g.m w iB v))] [0, 1, 2, 3, 4, 5, 6] rfl mixed (by kernel_rfl) (⟨fun _ => up_rv, fun _ => up_rv, trivial⟩) ?_
      refine L_p k8 rfl rfl (P_move gG) ?_
      refine L_ld (c := vC) rfl rfl .plain (fun _ _ h => ⟨h.ch, fun b hb _ => h.below.block b hb⟩) dI cD ?_
      refine L_p kG rfl rfl (iI ▸ P_build (vs := [(0, vC)]) [[.int .i64 0, .int .i64 0, .int .i64 0, .int .i64 0]] lay_218 rfl rfl (.cons rfl .nil) ⟨⟨_, rfl, cells_size iG⟩, trivial⟩) ?_
      refine L_do (φ := fun v g w => RV g.m w rA v) rfl rfl .plain (fun g w hd => D_call (g := g) (vs := [kG]) en111 (.cons rfl .nil) (wk111 (jG.ext hd.1) jI) fun g' w' v hs hr => ⟨g', hs, hr⟩) (fun tD hv => ?_)
      obtain ⟨_, _, _, rq589⟩ := hv
      refine L_p (fPtr m8 3) rfl rfl (P_fieldAddr at_148_3 cD (OB.ptr vB)) ?_
      refine L_ld (c := .int .i64 ((l5).Times)) rfl rfl .plain (fun _ _ h => ⟨h.ch, fun b hb _ => h.below.block b hb⟩) kI rfl ?_
      refine L_do (φ := fun v g w => RV g.m w iB v) rfl rfl .plain (fun g w hd => D_call (g := g) (vs := [tD, .int .i64 ((l5).Times)]) en110 (.cons rfl (.cons rfl .nil)) (wk110 (word (A := fun g w => RV g.m w rA tD) 3 rfl rfl (deps_of hd)) lI) fun g' w' v hs hr => ⟨g', hs, hr⟩) (fun lK hv => ?_)
      obtain ⟨_, _, _, rq593⟩ := hv
      refine L_nil fun mK xM hall => ?_
      have hs := hall.1
      have hfr := hfr.ext hs
      have u4_1_586 := u4_1_586.ext hs
      have n8 := n8.ext hs
      have oB := oB.ext hs
      have tB := tB.ext hs
      have d9 := d9.ext hs
      have bN := (word_all (A := fun g w => RV g.m w rA tD) 3 rfl hall)
      have nK := (word_all (A := fun g w => RV g.m w iB lK) 6 rfl hall)
      clear hs hall
      obtain ⟨yA, mI, h⟩ := bsome h
      refine EL_do .plain rfl (D_append (g := mK) (i := 1007) Tryd.underlying34 info_3 rfl rfl tB oB rfl nK mI fun uD cN vD hs o611 lG _ => ?_)
      have hfr := hfr.stp hs
      have u4_1_586 := u4_1_586.stp hs rfl
      have n8 := n8.stp hs rfl
      have d9 := d9.stp hs
      refine EL_at vD rfl rfl ?_
      refine EL_nil (thn_n (E_seq (E_region (EL_mw vD rfl rfl ?_))))
      refine EL_p (.int .i64 ((yA).length : Int)) (P_len Tryd.underlying34 rfl lG) rfl ?_
      refine EL_in (.bool ((decide (((yA).length : Int) > (96 : Int))))) rfl rfl rfl rfl ?_
      refine EL_nil (thn_n ?_)
      rcases csome h with ⟨aD, h⟩ | ⟨aD, h⟩
      ·refine E_ct aD rfl ?_
       refine E_seq (E_region (EL_do .plain rfl (D_loadO (g := uD) Tryd.isAgg52 Tryd.sizeOf52 iA n8 fun oK pK => ?_)))
       refine EL_mv hG rfl ?_
       refine EL_do .plain rfl (D_storeOc (g := uD) (v := oK) Tryd.sizeOf52 iA n8 rfl pK fun dN eN hs b615 cb => ?_)
       clear cb
       have hfr := hfr.stp hs
       refine EL_at (.int .i64 (u3)) rfl rfl ?_
       refine EL_at (.int .i64 (8)) rfl rfl ?_
       refine EL_nil (thn_n (E_ret (blk_r ?_)))
       refine thn_r ?_
       refine thn_r ?_
       refine blk_r ?_
       refine thn_r ?_
       obtain rfl := sinj h
       obtain ⟨ad616, cv616, hp616, nI, cr616⟩ := ob_read Tryd.isAgg52 Tryd.sizeOf52 b615
       exact endm_ctt rfl rfl ((show _ = p1 from iA).trans hp616) nI (show _ = .int .i64 (u3) from rfl) (show _ = .int .i64 (8) from rfl) ⟨_, hfr, _, _, _, rfl, cr616, rfl, rfl⟩
      ·refine E_cf aD rfl ?_
       exact E_skip (blk_n (thn_n (uH (z9, yA) _ _ ⟨uD, (vD), hfr, eG, iA, n8, u4_1_586, rfl, lG, o611, uE, d9, vE, xE⟩ h)))
    ·rintro ⟨aB, dB⟩ tL gN ⟨qK, mG, hfr, sG, xG, yG, u4_1_617, zG, aH, cH, yE, zE, cF, dF⟩ h
     refine E_region (EL_in (.int .i64 ((w64 (u3 + (1 : Int))))) dF rfl rfl rfl ?_)
     refine EL_mw (.int .i64 ((w64 (u3 + (1 : Int))))) rfl rfl ?_
     exact EL_nil (thn_n (tH (aB, dB, (w64 (u3 + (1 : Int)))) _ _ ⟨qK, (mG), hfr, sG, xG, yG, u4_1_617, zG, aH, cH, yE, zE, cF, rfl⟩ h))
   ·refine E_cf rC rfl ?_
    refine E_exit ?_
    refine thn_e ?_
    refine thn_e ?_
    refine blk_hit ?_
    exact thn_n (sH (m7, g8) _ _ ⟨lD, (k8), hfr, v8, k9, t5, u4_1_328, l9, x5, i6⟩ h)
  ·rintro ⟨eF, y9⟩ uL iN ⟨dH, yB, hfr, gH, eD, iH, u4_1_618, jH, zB, kH⟩ h
   refine E_seq (E_region (EL_mv gH rfl ?_))
   refine EL_mv jH rfl ?_
   have lH : RV dH.m _ (⟨x0, y9⟩ : TieHarness) (.agg (setCh [[.int .i64 0], [.slice none 0 0]] [(0, .int .i64 (x0)), (1, yB)]).flatten.toArray) := RV_build rfl (rep_pair (rfl) (rep_last (RV.cells zB)))
   generalize iE : (Value.agg (setCh [[.int .i64 0], [.slice none 0 0]] [(0, .int .i64 (x0)), (1, yB)]).flatten.toArray) = mH at lH
   refine EL_p mH (iE ▸ P_build (vs := [(0, .int .i64 (x0)), (1, yB)]) [[.int .i64 0], [.slice none 0 0]] lay_52 rfl rfl (.cons rfl (.cons rfl .nil)) ⟨⟨_, rfl, rfl⟩, ⟨⟨_, rfl, cells_size zB⟩, trivial⟩⟩) rfl ?_
   refine EL_do .plain rfl (D_storeOc (g := dH) (v := mH) Tryd.sizeOf52 eD iH rfl lH fun sK tK hs b620 cb => ?_)
   obtain ⟨uK, vK, xD, _, _⟩ := RV_list zB
   have lL : OSF 2004 1007 1 sK tK 3 52 (y9 : List Int) p1 := cb.osfv (by rw [← iE, xD]; rfl) (kH.stp hs rfl)
   clear cb
   have hfr := hfr.stp hs
   refine EL_at (.int .i64 (0)) rfl rfl ?_
   refine EL_at (.int .i64 (0)) rfl rfl ?_
   refine EL_nil (thn_n (E_ret ?_))
   obtain rfl := sinj h
   obtain ⟨ad621, cv621, hp621, pI, cr621⟩ := ob_read Tryd.isAgg52 Tryd.sizeOf52 b620
   exact endm_ctt rfl rfl ((show _ = p1 from eD).trans hp621) pI (show _ = .int .i64 (0) from rfl) (show _ = .int .i64 (0) from rfl) ⟨_, hfr, _, _, _, rfl, cr621, rfl, rfl⟩
def f66 (x0 : TieHarness) (x1 : List Str) : Option (Int) :=
 jn (σ := Unit) (fun _ =>
  (f103 x1 ((((x0).Warps).length : Int))).bind fun u3 =>
  some (u3)
  ) fun k6 =>
 (f51 x0).bind fun y9 =>
 bif (y9 != (0 : Int)) then
  some (y9)
 else
  k6 ()
theorem en66 : Enters Tryd.prog 66 := enters_of Tryd.func66 (by kernel_rfl) rfl
theorem wk66 {gI : Gh} {wI : World} {x0 : TieHarness} {x1 : List Str} {up0 : Value} (rp0 : RV gI.m wI x0 up0) {up1 : Value} (rp1 : RV gI.m wI x1 up1) {r : Int} (h : f66 x0 x1 = some r) : Fn Tryd.prog 66 #[up0, up1] gI wI (fun _ _ v => v = .int .i64 (r)) := by
 unfold f66 at h
 refine fn_of_E Tryd.func66 rfl (Nat.le_of_ble_eq_true rfl) fun g0 hm hfr => ?_
 have rp0 : RV g0.m wI x0 up0 := hm ▸ rp0
 have rp1 : RV g0.m wI x1 up1 := hm ▸ rp1
 show E _ 16 none _ _ _ _ _
 refine E_seq (E_region (EL_do .plain rfl (D_box (g := g0) rfl rp0 fun g1 w1 p1 hs q1 => ?_)))
 have hfr := hfr.ext hs
 have rp1 := rp1.ext hs
 refine EL_at (.int .i64 (0)) rfl rfl ?_
 refine EL_nil (thn_n (E_joinC h (fun (s : Unit) e w => ∃ (g : Gh) , Fr gI wI g w ∧ e 1 = up1 ∧ RV g.m w (x1 : List Str) up1 ∧ e 2 = p1 ∧ PT g.m w (x0 : TieHarness) p1) (fun X6 k6 hk6 h => ?_) ?_))
 ·refine E_seq (E_region (EL_do .plain rfl (D_load (g := g1) Tryd.isAgg52 Tryd.sizeOf52 rfl q1 fun v7 r7 => ?_)))
  obtain ⟨y9, i7, h⟩ := bsome h
  refine EL_do .plain rfl (D_call (g := g1) (vs := [v7]) en51 (.cons rfl .nil) (wk51 r7 i7) fun g8 w8_ v8 hs hr => ?_)
  have hfr := hfr.ext hs
  have rp1 := rp1.ext hs
  have q1 := q1.ext hs
  subst hr
  refine EL_at (.int .i64 (y9)) rfl rfl ?_
  refine EL_nil (thn_n (E_seq (E_region (EL_mw (.int .i64 (y9)) rfl rfl ?_))))
  refine EL_in (.bool ((y9 != (0 : Int)))) rfl rfl rfl rfl ?_
  refine EL_nil (thn_n ?_)
  rcases csome h with ⟨o0, h⟩ | ⟨o0, h⟩
  ·refine E_ct o0 rfl ?_
   refine E_seq (E_region (EL_mw (.int .i64 (y9)) rfl rfl ?_))
   refine EL_at (.int .i64 (y9)) rfl rfl ?_
   refine EL_nil (thn_n (E_ret (thn_r ?_)))
   obtain rfl := sinj h
   exact end1 rfl rfl (show _ = .int .i64 (y9) from rfl) ⟨_, hfr, rfl⟩
  ·refine E_cf o0 rfl ?_
   exact E_skip (thn_n (hk6 () _ _ ⟨g8, hfr, rfl, rp1, rfl, q1⟩ h))
 ·rintro _ l8 n8 ⟨x6, hfr, t5, x5, i6, l5⟩ h
  refine E_seq (E_region (EL_mv t5 rfl ?_))
  refine EL_p (fPtr p1 1) (P_fieldAddr at_52_1 i6 (PT.ptr l5)) rfl ?_
  have m7 := PT_field (part_TieHarness_1).1 l5
  refine EL_do .plain rfl (D_load (g := x6) Tryd.isAgg34 Tryd.sizeOf34 rfl m7 fun r8 k8 => ?_)
  refine EL_p (.int .i64 (((x0).Warps).length : Int)) (P_len Tryd.underlying34 rfl k8) rfl ?_
  obtain ⟨u3, y6, h⟩ := bsome h
  refine EL_do .plain rfl (D_call (g := x6) (vs := [up1, .int .i64 (((x0).Warps).length : Int)]) en103 (.cons rfl (.cons rfl .nil)) (wk103 x5 y6) fun x8 m8 a9 hs hr => ?_)
  have hfr := hfr.ext hs
  subst hr
  refine EL_at (.int .i64 (u3)) rfl rfl ?_
  refine EL_nil (thn_n (E_ret ?_))
  obtain rfl := sinj h
  exact end1 rfl rfl (show _ = .int .i64 (u3) from rfl) ⟨_, hfr, rfl⟩
def f18 (x0 : List Str) : Option (TieHarness × Design × Int) :=
 jn (σ := TieHarness × Design) (fun (l5, k8) =>
  (f55 ((⟨l5⟩ : TieTieHarness)) x0).bind fun y6 =>
  some (l5, y6, (0 : Int))
  ) fun k28 =>
 (f54 x0).bind fun o0 =>
 bif (o0.2 != (0 : Int)) then
  some (o0.1, (⟨0, []⟩ : Design), o0.2)
 else
  k28 (o0.1, (⟨0, []⟩ : Design))
theorem en18 : Enters Tryd.prog 18 := enters_of Tryd.func18 (by kernel_rfl) rfl
theorem wk18 {gI : Gh} {wI : World} {x0 : List Str} {up0 : Value} (rp0 : RV gI.m wI x0 up0) {r : TieHarness × Design × Int} (h : f18 x0 = some r) : Fn Tryd.prog 18 #[up0] gI wI (fun m w v => ∃ y0 y1 y2, v = .tuple #[y0, y1, y2] ∧ RV m w (r.1) y0 ∧ RV m w (r.2.1) y1 ∧ y2 = .int .i64 (r.2.2)) := by
 unfold f18 at h
 refine fn_of_E Tryd.func18 rfl (Nat.le_of_ble_eq_true rfl) fun g0 hm hfr => ?_
 have rp0 : RV g0.m wI x0 up0 := hm ▸ rp0
 show E _ 20 none _ _ _ _ _
 refine E_seq (E_region (EL_do .plain rfl (D_allocOc (g := g0) 2002 (⟨0, []⟩ : TieHarness) Tryd.zeroValue52 (fun m w => ⟨_, (rep_two rep_int rep_nil), rfl⟩) fun g1 w1 p1 hs b1 cb => ?_)))
 have hfr := hfr.stp hs
 have rp0 := rp0.stp hs
 have qC : OSF 2002 60201 1 g1 w1 3 52 ([] : List Int) p1 := cb.osf (by rfl)
 clear cb
 refine EL_do .plain rfl (D_allocOc (g := g1) 2003 (⟨0, []⟩ : Design) Tryd.zeroValue55 (fun m w => ⟨_, (rep_two rep_int rep_nil), rfl⟩) fun g2 w2 p2 hs b2 cb => ?_)
 have hfr := hfr.stp hs
 have rp0 := rp0.stp hs
 have b1 := b1.stp hs rfl
 have x5 : OSF 2003 60301 1 g2 w2 3 55 ([] : List Int) p2 := cb.osf (by rfl)
 clear cb
 refine EL_at (.int .i64 (0)) rfl rfl ?_
 refine EL_nil (thn_n (E_joinC h (fun (s : TieHarness × Design) e w => ∃ (g : Gh) , Fr gI wI g w ∧ e 0 = up0 ∧ RV g.m w (x0 : List Str) up0 ∧ e 2 = p1 ∧ OB 2002 g w 52 (s.1 : TieHarness) p1 ∧ e 3 = p2 ∧ OB 2003 g w 55 (s.2 : Design) p2 ∧ OSF 2003 60301 1 g w 3 55 ((s.2).Rows) p2) (fun X28 k28 l9 h => ?_) ?_))
 ·refine E_seq (E_region (EL_mw up0 rfl rfl ?_))
  obtain ⟨o0, n9, h⟩ := bsome h
  refine EL_do .plain rfl (D_call (g := g2) (vs := [up0]) en54 (.cons rfl .nil) (wk54 rp0 n9) fun oB rC vC hs hr => ?_)
  have hfr := hfr.ext hs
  have rp0 := rp0.ext hs
  have b1 := b1.ext hs
  have x5 := x5.ext hs
  have b2 := b2.ext hs
  obtain ⟨i6, mC, rfl, l8, rfl⟩ := hr
  refine EL_mw (.tuple #[i6, .int .i64 (o0.2)]) rfl rfl ?_
  refine EL_p i6 (P_extract rfl rfl) rfl ?_
  refine EL_p (.int .i64 (o0.2)) (P_extract rfl rfl) rfl ?_
  refine EL_do .plain rfl (D_storeOc (g := oB) (v := i6) Tryd.sizeOf52 rfl b1 rfl l8 fun r8 aD hs b31 cb => ?_)
  clear cb
  have hfr := hfr.stp hs
  have rp0 := rp0.stp hs
  have x5 := x5.stp hs rfl
  have b2 := b2.stp hs rfl
  refine EL_at (.int .i64 (o0.2)) rfl rfl ?_
  refine EL_nil (thn_n (E_seq (E_region (EL_mw (.int .i64 (o0.2)) rfl rfl ?_))))
  refine EL_in (.bool ((o0.2 != (0 : Int)))) rfl rfl rfl rfl ?_
  refine EL_nil (thn_n ?_)
  rcases csome h with ⟨i7, h⟩ | ⟨i7, h⟩
  ·refine E_ct i7 rfl ?_
   refine E_seq (L_selfO Tryd.isAgg52 Tryd.sizeOf52 rfl b31 fun tB u9 y9 => ?_)
   refine L_selfO Tryd.isAgg55 Tryd.sizeOf55 rfl b2 fun vB z9 bA => ?_
   refine E_drawL (g := r8) (n := 6) [(3, (fun _ _ _ => True)), (4, (fun _ _ _ => True))] [0, 1, 2, 3, 4, 5] rfl mixed (by kernel_rfl) (⟨fun _ => (fun _ _ _ _ _ _ => trivial), fun _ => (fun _ _ _ _ _ _ => trivial), trivial⟩) ?_
   refine L_ld (c := tB) rfl rfl .plain (fun _ _ h => ⟨h.ch, fun b hb _ => h.below.block b hb⟩) (u9 _) rfl ?_
   refine L_ld (c := vB) rfl rfl .plain (fun _ _ h => ⟨h.ch, fun b hb _ => h.below.block b hb⟩) (z9 _) rfl ?_
   refine L_p (.int .i64 (o0.2)) rfl rfl (P_move rfl) ?_
   refine L_do (φ := fun _ _ _ => True) rfl rfl .plain (fun g w hd => y9 _ _ _ g w ⟨hd.1.ch, fun b hb _ => hd.1.below.block b hb⟩ rfl rfl) (fun bD hv => ?_)
   clear hv
   refine L_do (φ := fun _ _ _ => True) rfl rfl .plain (fun g w hd => bA _ _ _ g w ⟨hd.1.ch, fun b hb _ => hd.1.below.block b hb⟩ rfl rfl) (fun cD hv => ?_)
   clear hv
   refine L_p (.int .i64 (o0.2)) rfl rfl (P_assign rfl) ?_
   refine L_nl fun eD gD hs => ?_
   have hfr := hfr.ext hs
   have b31 := b31.ext hs
   have b2 := b2.ext hs
   clear hs
   refine EL_nil (thn_n (E_ret (thn_r ?_)))
   obtain rfl := sinj h
   obtain ⟨ad52, cv52, hp52, iA, cr52⟩ := ob_read Tryd.isAgg52 Tryd.sizeOf52 b31
   obtain ⟨ad53, cv53, hp53, rA, cr53⟩ := ob_read Tryd.isAgg55 Tryd.sizeOf55 b2
   exact endm_cct rfl rfl ((show _ = p1 from rfl).trans hp52) iA ((show _ = p2 from rfl).trans hp53) rA (show _ = .int .i64 (o0.2) from rfl) ⟨_, hfr, _, _, _, rfl, cr52, cr53, rfl⟩
  ·refine E_cf i7 rfl ?_
   exact E_skip (thn_n (l9 (o0.1, (⟨0, []⟩ : Design)) _ _ ⟨r8, hfr, rfl, rp0, rfl, b31, rfl, b2, x5⟩ h))
 ·rintro ⟨l5, k8⟩ uC iD ⟨v8, hfr, m8, n8, t5, u3, m7, x6, u3_1_54⟩ h
  refine E_seq (L_selfO Tryd.isAgg52 Tryd.sizeOf52 rfl u3 fun yB yA aB => ?_)
  refine L_loadO0 (x := .tmp 2) Tryd.isAgg52 Tryd.sizeOf52 u3 fun g8 x8 dB => ?_
  have a9 : RV v8.m _ (⟨l5⟩ : TieTieHarness) (.agg (setCh [[.int .i64 0, .slice none 0 0]] [(0, g8)]).flatten.toArray) := RV_build rfl (rep_last (RV.cells x8))
  generalize iB : (Value.agg (setCh [[.int .i64 0, .slice none 0 0]] [(0, g8)]).flatten.toArray) = d9 at a9
  obtain ⟨y6, lB, h⟩ := bsome h
  refine E_drawL (g := v8) (n := 6) [(4, (fun v g w => RV g.m w y6 v)), (5, (fun _ _ _ => True))] [0, 1, 2, 3, 4, 5] rfl mixed (by kernel_rfl) (⟨fun _ => up_rv, fun _ => (fun _ _ _ _ _ _ => trivial), trivial⟩) ?_
  refine L_ld (c := yB) rfl rfl .plain (fun _ _ h => ⟨h.ch, fun b hb _ => h.below.block b hb⟩) (yA _) t5 ?_
  refine L_ld (c := g8) rfl rfl .plain (fun _ _ h => ⟨h.ch, fun b hb _ => h.below.block b hb⟩) dB t5 ?_
  refine L_p d9 rfl rfl (iB ▸ P_build (vs := [(0, g8)]) [[.int .i64 0, .slice none 0 0]] lay_129 rfl rfl (.cons rfl .nil) ⟨⟨_, rfl, cells_size x8⟩, trivial⟩) ?_
  refine L_p up0 rfl rfl (P_move m8) ?_
  refine L_do (φ := fun v g w => RV g.m w y6 v) rfl rfl .plain (fun g w hd => D_call (g := g) (vs := [d9, up0]) en55 (.cons rfl (.cons rfl .nil)) (wk55 (a9.ext hd.1) (n8.ext hd.1) lB) fun g' w' v hs hr => ⟨g', hs, hr⟩) (fun k9 hv => ?_)
  obtain ⟨_, _, _, rq58⟩ := hv
  refine L_do (φ := fun _ _ _ => True) rfl rfl .plain (fun g w hd => aB _ _ _ g w ⟨hd.1.ch, fun b hb _ => hd.1.below.block b hb⟩ t5 rfl) (fun jD hv => ?_)
  clear hv
  refine L_nil fun zB lD hall => ?_
  have hs := hall.1
  have hfr := hfr.ext hs
  have u3 := u3.ext hs
  have x6 := x6.ext hs
  have cC := (word_all (A := fun g w => RV g.m w y6 k9) 4 rfl hall)
  clear hs hall
  refine EL_do .plain rfl (D_storeOc (g := zB) (v := k9) Tryd.sizeOf55 m7 x6 rfl cC fun nD oD hs b71 cb => ?_)
  clear cb
  have hfr := hfr.stp hs
  have u3 := u3.stp hs rfl
  refine EL_at (.int .i64 (0)) rfl rfl ?_
  refine EL_nil (thn_n (E_ret ?_))
  obtain rfl := sinj h
  obtain ⟨ad72, cv72, hp72, mB, cr72⟩ := ob_read Tryd.isAgg52 Tryd.sizeOf52 u3
  obtain ⟨ad73, cv73, hp73, nB, cr73⟩ := ob_read Tryd.isAgg55 Tryd.sizeOf55 b71
  exact endm_cct rfl rfl ((show _ = p1 from t5).trans hp72) mB ((show _ = p2 from m7).trans hp73) nB (show _ = .int .i64 (0) from rfl) ⟨_, hfr, _, _, _, rfl, cr72, cr73, rfl⟩
def f25  : Option (Bool) :=
 (f63 ((4 : Int)) (([(⟨0, (3 : Int), (2 : Int), (1 : Int)⟩ : TieGroup)] : List TieGroup))).bind fun y4 =>
 (f15 (y4.1) ((⟨(4 : Int), ([(1 : Int), (6 : Int)] : List Int)⟩ : Design))).bind fun y11 =>
 Option.bind (α := Bool) (
  bif (y4.2.2 == (0 : Int)) then
   bif (y11.2 == (0 : Int)) then
    (f23 (y11.1) (([(⟨[120, 46, 46, 46, 46, 46]⟩ : Str), (⟨[46, 120, 120, 46, 120, 120]⟩ : Str)] : List Str))).bind fun y6 =>
    some (y6)
   else
    some (false)
  else
   some (false)
  ) fun t5 =>
 some (t5)
theorem en25 : Enters Tryd.prog 25 := enters_of Tryd.func25 (by kernel_rfl) rfl
theorem wk25 {gI : Gh} {wI : World}   {r : Bool} (h : f25  = some r) : Fn Tryd.prog 25 #[] gI wI (fun _ _ v => v = .bool (r)) := by
 unfold f25 at h
 refine fn_of_E Tryd.func25 rfl (Nat.le_of_ble_eq_true rfl) fun g0 hm hfr => ?_
 show E _ 31 none _ _ _ _ _
 refine E_seq (E_region (EL_at (.bool false) rfl rfl ?_))
 refine EL_nil (thn_n (E_seq (E_region ?_)))
 have r1 : RV g0.m wI (⟨0, (3 : Int), (2 : Int), (1 : Int)⟩ : TieGroup) (.agg (setCh [[.int .i64 0], [.int .i64 0], [.int .i64 0], [.int .i64 0]] [(1, .int .i64 (3)), (2, .int .i64 (2)), (3, .int .i64 (1))]).flatten.toArray) := RV_build rfl (rep_pair (rep_int) (rep_pair (rfl) (rep_pair (rfl) (rep_last (rfl)))))
 generalize hv1 : (Value.agg (setCh [[.int .i64 0], [.int .i64 0], [.int .i64 0], [.int .i64 0]] [(1, .int .i64 (3)), (2, .int .i64 (2)), (3, .int .i64 (1))]).flatten.toArray) = v1 at r1
 refine EL_p v1 (hv1 ▸ P_build (vs := [(1, .int .i64 (3)), (2, .int .i64 (2)), (3, .int .i64 (1))]) [[.int .i64 0], [.int .i64 0], [.int .i64 0], [.int .i64 0]] lay_148 rfl rfl (.cons rfl (.cons rfl (.cons rfl .nil))) ⟨⟨_, rfl, rfl⟩, ⟨⟨_, rfl, rfl⟩, ⟨⟨_, rfl, rfl⟩, trivial⟩⟩⟩) rfl ?_
 refine EL_do .plain rfl (D_buildSlice (g := g0) 3008 (xs := ([(⟨0, (3 : Int), (2 : Int), (1 : Int)⟩ : TieGroup)] : List TieGroup)) (vs := [v1]) Tryd.underlying149 Tryd.sizeOf148 Tryd.zeroValue148 rfl rfl (.cons rfl .nil) (RVs.cons r1 RVs.nil) rfl rfl fun g2 w2 v2 hs o2 r2 hxt hfl => ?_)
 have hfr := hfr.stp hs
 obtain ⟨y4, m8, h⟩ := bsome h
 refine EL_do .plain rfl (D_call (g := g2) (vs := [.int .i64 (4), v2]) en63 (.cons rfl (.cons rfl .nil)) (wk63 r2 m8) fun g3 w3_ v3 hs hr => ?_)
 have hfr := hfr.ext hs
 obtain ⟨i6, n9, u9, rfl, x6, rfl, rfl⟩ := hr
 refine EL_mw (.tuple #[i6, .int .i64 (y4.2.1), .int .i64 (y4.2.2)]) rfl rfl ?_
 refine EL_p i6 (P_extract rfl rfl) rfl ?_
 refine EL_p (.int .i64 (y4.2.1)) (P_extract rfl rfl) rfl ?_
 refine EL_p (.int .i64 (y4.2.2)) (P_extract rfl rfl) rfl ?_
 refine EL_do .plain rfl (D_allocOc (g := g3) 2001 (⟨0, []⟩ : TieHarness) Tryd.zeroValue52 (fun m w => ⟨_, (rep_two rep_int rep_nil), rfl⟩) fun g5 w5 p5 hs b5 cb => ?_)
 have hfr := hfr.stp hs
 have x6 := x6.stp hs
 have y9 : OSF 2001 60101 1 g5 w5 3 52 ([] : List Int) p5 := cb.osf (by rfl)
 clear cb
 refine EL_do .plain rfl (D_storeOc (g := g5) (v := i6) Tryd.sizeOf52 rfl b5 rfl x6 fun g6 w6 hs b6 cb => ?_)
 clear cb
 have hfr := hfr.stp hs
 refine EL_at (.int .i64 (y4.2.1)) rfl rfl ?_
 refine EL_at (.int .i64 (y4.2.2)) rfl rfl ?_
 refine EL_nil (thn_n (E_seq (E_region (EL_do .plain rfl (D_loadO (g := g6) Tryd.isAgg52 Tryd.sizeOf52 rfl b6 fun v7 r7 => ?_)))))
 refine EL_do .plain rfl (D_buildSlice (g := g6) 3015 (xs := ([(1 : Int), (6 : Int)] : List Int)) (vs := [.int .i64 (1), .int .i64 (6)]) Tryd.underlying34 Tryd.sizeOf3 Tryd.zeroValue3 rfl rfl (.cons rfl (.cons rfl .nil)) (RVs.cons (RV_int.2 rfl) (RVs.cons (RV_int.2 rfl) RVs.nil)) rfl rfl fun g8 w8 v8 hs o8 r8 hxt hfl => ?_)
 have hfr := hfr.stp hs
 have r7 := r7.stp hs
 have r9 : RV g8.m _ (⟨(4 : Int), ([(1 : Int), (6 : Int)] : List Int)⟩ : Design) (.agg (setCh [[.int .i64 0], [.slice none 0 0]] [(0, .int .i64 (4)), (1, v8)]).flatten.toArray) := RV_build rfl (rep_pair (rfl) (rep_last (RV.cells r8)))
 generalize n8 : (Value.agg (setCh [[.int .i64 0], [.slice none 0 0]] [(0, .int .i64 (4)), (1, v8)]).flatten.toArray) = v9 at r9
 refine EL_p v9 (n8 ▸ P_build (vs := [(0, .int .i64 (4)), (1, v8)]) [[.int .i64 0], [.slice none 0 0]] lay_55 rfl rfl (.cons rfl (.cons rfl .nil)) ⟨⟨_, rfl, rfl⟩, ⟨⟨_, rfl, cells_size r8⟩, trivial⟩⟩) rfl ?_
 obtain ⟨y11, k8, h⟩ := bsome h
 refine EL_do .plain rfl (D_call (g := g8) (vs := [v7, v9]) en15 (.cons rfl (.cons rfl .nil)) (wk15 r7 r9 k8) fun i7 z9 rA hs hr => ?_)
 have hfr := hfr.ext hs
 obtain ⟨l5, l9, rfl, x5, rfl⟩ := hr
 refine EL_mw (.tuple #[l5, .int .i64 (y11.2)]) rfl rfl ?_
 refine EL_p l5 (P_extract rfl rfl) rfl ?_
 refine EL_p (.int .i64 (y11.2)) (P_extract rfl rfl) rfl ?_
 refine EL_at l5 rfl rfl ?_
 refine EL_at (.int .i64 (y11.2)) rfl rfl ?_
 refine EL_nil (thn_n ?_)
 obtain ⟨t5, hx, h⟩ := bsome h
 refine E_join (fun e w => ∃ (g : Gh) , Fr gI wI g w ∧ e 0 = .bool (t5)) (fun Q' hQ => ?_) (fun bA yA hR => ?_)
 ·replace h := hx
  clear hx
  refine E_region (EL_mw (.int .i64 (y4.2.2)) rfl rfl ?_)
  refine EL_in (.bool ((y4.2.2 == (0 : Int)))) rfl rfl rfl rfl ?_
  refine EL_mw (.bool ((y4.2.2 == (0 : Int)))) rfl rfl ?_
  rcases csome h with ⟨u3, h⟩ | ⟨u3, h⟩
  ·refine EL_y (.int .i64 (y11.2)) (P_move rfl) rfl rfl u3 rfl ?_
   refine EL_y (.bool ((y11.2 == (0 : Int)))) (P_int rfl rfl rfl) rfl rfl u3 rfl ?_
   refine EL_p (.bool ((y11.2 == (0 : Int)))) (P_pick (b := (y4.2.2 == (0 : Int))) rfl (pick_t u3 rfl)) rfl ?_
   refine EL_mw (.bool ((y11.2 == (0 : Int)))) rfl rfl ?_
   rcases csome h with ⟨o0, h⟩ | ⟨o0, h⟩
   ·refine EL_y l5 (P_move rfl) rfl rfl o0 rfl ?_
    refine EL_do (.yes2 rfl rfl o0) rfl (D_buildSlice (g := i7) 3028 (xs := ([(⟨[120, 46, 46, 46, 46, 46]⟩ : Str), (⟨[46, 120, 120, 46, 120, 120]⟩ : Str)] : List Str)) (vs := [Str.v (⟨[120, 46, 46, 46, 46, 46]⟩ : Str), Str.v (⟨[46, 120, 120, 46, 120, 120]⟩ : Str)]) Tryd.underlying57 Tryd.sizeOf9 Tryd.zeroValue9 rfl rfl (.cons rfl (.cons rfl .nil)) (RVs.cons (RV_str.2 rfl) (RVs.cons (RV_str.2 rfl) RVs.nil)) rfl rfl fun x8 aB a9 hs o19 d9 hxt hfl => ?_)
    have hfr := hfr.stp hs
    have x5 := x5.stp hs
    obtain ⟨y6, l8, h⟩ := bsome h
    refine EL_do (.yes2 rfl rfl o0) rfl (D_call (g := x8) (vs := [l5, a9]) en23 (.cons rfl (.cons rfl .nil)) (wk23 x5 d9 l8) fun k9 iA dB hs hr => ?_)
    have hfr := hfr.ext hs
    subst hr
    refine EL_p (.bool (y6)) (P_pick (b := (y11.2 == (0 : Int))) rfl (pick_t o0 rfl)) rfl ?_
    refine EL_at (.bool (y6)) rfl rfl ?_
    refine EL_nil ?_
    obtain rfl := sinj h
    exact hQ _ _ ⟨k9, hfr, rfl⟩
   ·refine EL_s rfl rfl o0 rfl rfl ?_
    refine EL_s rfl rfl o0 rfl rfl ?_
    refine EL_s rfl rfl o0 rfl rfl ?_
    refine EL_p (.bool false) (P_pick (b := (y11.2 == (0 : Int))) rfl (pick_f o0 rfl)) rfl ?_
    refine EL_at (.bool false) rfl rfl ?_
    refine EL_nil ?_
    obtain rfl := sinj h
    exact hQ _ _ ⟨i7, hfr, rfl⟩
  ·refine EL_s rfl rfl u3 rfl rfl ?_
   refine EL_s rfl rfl u3 rfl rfl ?_
   refine EL_p (.bool false) (P_pick (b := (y4.2.2 == (0 : Int))) rfl (pick_f u3 rfl)) rfl ?_
   refine EL_dead 5 rfl ?_
   refine EL_at (.bool false) rfl rfl ?_
   refine EL_nil ?_
   obtain rfl := sinj h
   exact hQ _ _ ⟨i7, hfr, rfl⟩
 ·clear hx
  obtain ⟨iB, hfr, m7⟩ := hR
  refine E_ret ?_
  obtain rfl := sinj h
  exact end1 rfl rfl (show _ = .bool (t5) from m7) ⟨_, hfr, rfl⟩
def f30 (x0 : TieHarness) (x1 : List Str) : Option (Design × Int) :=
 jn (σ := Design) (fun t5 =>
  jn (σ := Design) (fun k9 =>
   (f55 ((⟨x0⟩ : TieTieHarness)) x1).bind fun y40 =>
   some (y40, (0 : Int))
   ) fun z9 =>
  (f67 ((⟨x0⟩ : TieTieHarness)) x1).bind fun o0 =>
  bif o0.2.2.2 then
   some (t5, (9 : Int))
  else
   z9 (t5)
  ) fun bA =>
 (f66 x0 x1).bind fun u3 =>
 bif (u3 != (0 : Int)) then
  some ((⟨0, []⟩ : Design), u3)
 else
  bA ((⟨0, []⟩ : Design))
theorem en30 : Enters Tryd.prog 30 := enters_of Tryd.func30 (by kernel_rfl) rfl
theorem wk30 {gI : Gh} {wI : World} {x0 : TieHarness} {x1 : List Str} {up0 : Value} (rp0 : RV gI.m wI x0 up0) {up1 : Value} (rp1 : RV gI.m wI x1 up1) {r : Design × Int} (h : f30 x0 x1 = some r) : Fn Tryd.prog 30 #[up0, up1] gI wI (fun m w v => ∃ y0 y1, v = .tuple #[y0, y1] ∧ RV m w (r.1) y0 ∧ y1 = .int .i64 (r.2)) := by
 unfold f30 at h
 refine fn_of_E Tryd.func30 rfl (Nat.le_of_ble_eq_true rfl) fun g0 hm hfr => ?_
 have rp0 : RV g0.m wI x0 up0 := hm ▸ rp0
 have rp1 : RV g0.m wI x1 up1 := hm ▸ rp1
 show E _ 33 none _ _ _ _ _
 refine E_seq (E_region (EL_do .plain rfl (D_box (g := g0) rfl rp0 fun g1 w1 p1 hs q1 => ?_)))
 have hfr := hfr.ext hs
 have rp1 := rp1.ext hs
 refine EL_do .plain rfl (D_allocOc (g := g1) 2004 (⟨0, []⟩ : Design) Tryd.zeroValue55 (fun m w => ⟨_, (rep_two rep_int rep_nil), rfl⟩) fun g2 w2 p2 hs b2 cb => ?_)
 have hfr := hfr.stp hs
 have rp1 := rp1.stp hs
 have q1 := q1.stp hs
 have i7 : OSF 2004 60401 1 g2 w2 3 55 ([] : List Int) p2 := cb.osf (by rfl)
 clear cb
 refine EL_at (.int .i64 (0)) rfl rfl ?_
 refine EL_nil (thn_n (E_joinC h (fun (s : Design) e w => ∃ (g : Gh) , Fr gI wI g w ∧ e 1 = up1 ∧ RV g.m w (x1 : List Str) up1 ∧ e 2 = p1 ∧ PT g.m w (x0 : TieHarness) p1 ∧ e 4 = p2 ∧ OB 2004 g w 55 (s : Design) p2 ∧ OSF 2004 60401 1 g w 3 55 ((s).Rows) p2) (fun X10 bA lB h => ?_) ?_))
 ·refine E_seq (E_region (EL_do .plain rfl (D_load (g := g2) Tryd.isAgg52 Tryd.sizeOf52 rfl q1 fun qC rC => ?_)))
  refine EL_mw up1 rfl rfl ?_
  obtain ⟨u3, mB, h⟩ := bsome h
  refine EL_do .plain rfl (D_call (g := g2) (vs := [qC, up1]) en66 (.cons rfl (.cons rfl .nil)) (wk66 rC rp1 mB) fun n8 oD xD hs hr => ?_)
  have hfr := hfr.ext hs
  have rp1 := rp1.ext hs
  have q1 := q1.ext hs
  have i7 := i7.ext hs
  have b2 := b2.ext hs
  subst hr
  refine EL_at (.int .i64 (u3)) rfl rfl ?_
  refine EL_nil (thn_n (E_seq (E_region (EL_mw (.int .i64 (u3)) rfl rfl ?_))))
  refine EL_in (.bool ((u3 != (0 : Int)))) rfl rfl rfl rfl ?_
  refine EL_nil (thn_n ?_)
  rcases csome h with ⟨m7, h⟩ | ⟨m7, h⟩
  ·refine E_ct m7 rfl ?_
   refine E_seq (E_region (EL_do .plain rfl (D_loadO (g := n8) Tryd.isAgg55 Tryd.sizeOf55 rfl b2 fun uC vC => ?_)))
   refine EL_mw (.int .i64 (u3)) rfl rfl ?_
   refine EL_do .plain rfl (D_storeOc (g := n8) (v := uC) Tryd.sizeOf55 rfl b2 rfl vC fun yD zD hs b16 cb => ?_)
   clear cb
   have hfr := hfr.stp hs
   refine EL_at (.int .i64 (u3)) rfl rfl ?_
   refine EL_nil (thn_n (E_ret (thn_r ?_)))
   obtain rfl := sinj h
   obtain ⟨ad17, cv17, hp17, nB, cr17⟩ := ob_read Tryd.isAgg55 Tryd.sizeOf55 b16
   exact endm_ct rfl rfl ((show _ = p2 from rfl).trans hp17) nB (show _ = .int .i64 (u3) from rfl) ⟨_, hfr, _, _, rfl, cr17, rfl⟩
  ·refine E_cf m7 rfl ?_
   exact E_skip (thn_n (lB ((⟨0, []⟩ : Design)) _ _ ⟨n8, hfr, rfl, rp1, rfl, q1, rfl, b2, i7⟩ h))
 ·rintro t5 sD aE ⟨r8, hfr, k8, x5, l8, i6, x6, l5, u4_1_18⟩ h
  refine E_joinC h (fun (s : Design) e w => ∃ (g : Gh) , Fr gI wI g w ∧ e 1 = up1 ∧ RV g.m w (x1 : List Str) up1 ∧ e 2 = p1 ∧ PT g.m w (x0 : TieHarness) p1 ∧ e 4 = p2 ∧ OB 2004 g w 55 (s : Design) p2 ∧ OSF 2004 60401 1 g w 3 55 ((s).Rows) p2) (fun X27 z9 oB h => ?_) ?_
  ·refine E_seq (E_region (EL_do .plain rfl (D_load (g := r8) Tryd.isAgg52 Tryd.sizeOf52 l8 i6 fun v8 iA => ?_)))
   have rA : RV r8.m _ (⟨x0⟩ : TieTieHarness) (.agg (setCh [[.int .i64 0, .slice none 0 0]] [(0, v8)]).flatten.toArray) := RV_build rfl (rep_last (RV.cells iA))
   generalize tB : (Value.agg (setCh [[.int .i64 0, .slice none 0 0]] [(0, v8)]).flatten.toArray) = yA at rA
   refine EL_p yA (tB ▸ P_build (vs := [(0, v8)]) [[.int .i64 0, .slice none 0 0]] lay_129 rfl rfl (.cons rfl .nil) ⟨⟨_, rfl, cells_size iA⟩, trivial⟩) rfl ?_
   refine EL_mv k8 rfl ?_
   obtain ⟨o0, vB, h⟩ := bsome h
   refine EL_do .plain rfl (D_call (g := r8) (vs := [yA, up1]) en67 (.cons rfl (.cons rfl .nil)) (wk67 rA x5 vB) fun x8 tD bE hs hr => ?_)
   have hfr := hfr.ext hs
   have x5 := x5.ext hs
   have i6 := i6.ext hs
   have u4_1_18 := u4_1_18.ext hs
   have l5 := l5.ext hs
   obtain ⟨iD, jD, lD, nD, rfl, rfl, rfl, rfl, rfl⟩ := hr
   refine EL_mw (.tuple #[.int .i64 (o0.1), .int .i64 (o0.2.1), .int .i64 (o0.2.2.1), .bool (o0.2.2.2)]) rfl rfl ?_
   refine EL_p (.int .i64 (o0.1)) (P_extract rfl rfl) rfl ?_
   refine EL_p (.int .i64 (o0.2.1)) (P_extract rfl rfl) rfl ?_
   refine EL_p (.int .i64 (o0.2.2.1)) (P_extract rfl rfl) rfl ?_
   refine EL_p (.bool (o0.2.2.2)) (P_extract rfl rfl) rfl ?_
   refine EL_at (.int .i64 (o0.1)) rfl rfl ?_
   refine EL_at (.int .i64 (o0.2.1)) rfl rfl ?_
   refine EL_at (.int .i64 (o0.2.2.1)) rfl rfl ?_
   refine EL_at (.bool (o0.2.2.2)) rfl rfl ?_
   refine EL_nil (thn_n (E_seq (E_region (EL_mw (.bool (o0.2.2.2)) rfl rfl ?_))))
   refine EL_nil (thn_n ?_)
   rcases csome h with ⟨g8, h⟩ | ⟨g8, h⟩
   ·refine E_ct g8 rfl ?_
    refine E_seq (E_region (EL_do .plain rfl (D_loadO (g := x8) Tryd.isAgg55 Tryd.sizeOf55 x6 l5 fun aD bD => ?_)))
    refine EL_do .plain rfl (D_storeOc (g := x8) (v := aD) Tryd.sizeOf55 x6 l5 rfl bD fun iE lE hs b34 cb => ?_)
    clear cb
    have hfr := hfr.stp hs
    refine EL_at (.int .i64 (9)) rfl rfl ?_
    refine EL_nil (thn_n (E_ret (thn_r ?_)))
    obtain rfl := sinj h
    obtain ⟨ad35, cv35, hp35, yB, cr35⟩ := ob_read Tryd.isAgg55 Tryd.sizeOf55 b34
    exact endm_ct rfl rfl ((show _ = p2 from x6).trans hp35) yB (show _ = .int .i64 (9) from rfl) ⟨_, hfr, _, _, rfl, cr35, rfl⟩
   ·refine E_cf g8 rfl ?_
    exact E_skip (thn_n (oB (t5) _ _ ⟨x8, hfr, k8, x5, l8, i6, x6, l5, u4_1_18⟩ h))
  ·rintro k9 uD mE ⟨a9, hfr, l9, n9, u9, y9, m8, y6, u4_1_36⟩ h
   refine E_seq (E_region (EL_do .plain rfl (D_load (g := a9) Tryd.isAgg52 Tryd.sizeOf52 u9 y9 fun d9 aB => ?_)))
   have dB : RV a9.m _ (⟨x0⟩ : TieTieHarness) (.agg (setCh [[.int .i64 0, .slice none 0 0]] [(0, d9)]).flatten.toArray) := RV_build rfl (rep_last (RV.cells aB))
   generalize zB : (Value.agg (setCh [[.int .i64 0, .slice none 0 0]] [(0, d9)]).flatten.toArray) = iB at dB
   refine EL_p iB (zB ▸ P_build (vs := [(0, d9)]) [[.int .i64 0, .slice none 0 0]] lay_129 rfl rfl (.cons rfl .nil) ⟨⟨_, rfl, cells_size aB⟩, trivial⟩) rfl ?_
   refine EL_mv l9 rfl ?_
   obtain ⟨y40, cC, h⟩ := bsome h
   refine EL_do .plain rfl (D_call (g := a9) (vs := [iB, up1]) en55 (.cons rfl (.cons rfl .nil)) (wk55 dB n9 cC) fun cD vD eD hs hr => ?_)
   have hfr := hfr.ext hs
   have y6 := y6.ext hs
   have gD := hr
   refine EL_do .plain rfl (D_storeOc (g := cD) (v := eD) Tryd.sizeOf55 m8 y6 rfl gD fun oE rE hs b41 cb => ?_)
   clear cb
   have hfr := hfr.stp hs
   refine EL_at (.int .i64 (0)) rfl rfl ?_
   refine EL_nil (thn_n (E_ret ?_))
   obtain rfl := sinj h
   obtain ⟨ad42, cv42, hp42, mC, cr42⟩ := ob_read Tryd.isAgg55 Tryd.sizeOf55 b41
   exact endm_ct rfl rfl ((show _ = p2 from m8).trans hp42) mC (show _ = .int .i64 (0) from rfl) ⟨_, hfr, _, _, rfl, cr42, rfl⟩
def f31 (x0 : TieHarness) (x1 : List Str) : Option (Int × Int × Int × Int) :=
 jn (σ := Unit) (fun _ =>
  (f67 ((⟨x0⟩ : TieTieHarness)) x1).bind fun o0 =>
  jn (σ := Int × Int × Int) (fun (u3, l5, t5) =>
   some (u3, l5, t5, (0 : Int))
   ) fun x8 =>
  bif (!o0.2.2.2) then
   some ((0 : Int), (0 : Int), (0 : Int), (7 : Int))
  else
   x8 (o0.1, o0.2.1, o0.2.2.1)
  ) fun k6 =>
 (f66 x0 x1).bind fun y9 =>
 bif (y9 != (0 : Int)) then
  some ((0 : Int), (0 : Int), (0 : Int), y9)
 else
  k6 ()
theorem en31 : Enters Tryd.prog 31 := enters_of Tryd.func31 (by kernel_rfl) rfl
theorem wk31 {gI : Gh} {wI : World} {x0 : TieHarness} {x1 : List Str} {up0 : Value} (rp0 : RV gI.m wI x0 up0) {up1 : Value} (rp1 : RV gI.m wI x1 up1) {r : Int × Int × Int × Int} (h : f31 x0 x1 = some r) : Fn Tryd.prog 31 #[up0, up1] gI wI (fun m w v => ∃ y0 y1 y2 y3, v = .tuple #[y0, y1, y2, y3] ∧ y0 = .int .i64 (r.1) ∧ y1 = .int .i64 (r.2.1) ∧ y2 = .int .i64 (r.2.2.1) ∧ y3 = .int .i64 (r.2.2.2)) := by
 unfold f31 at h
 refine fn_of_E Tryd.func31 rfl (Nat.le_of_ble_eq_true rfl) fun g0 hm hfr => ?_
 have rp0 : RV g0.m wI x0 up0 := hm ▸ rp0
 have rp1 : RV g0.m wI x1 up1 := hm ▸ rp1
 show E _ 30 none _ _ _ _ _
 refine E_seq (E_region (EL_do .plain rfl (D_box (g := g0) rfl rp0 fun g1 w1 p1 hs q1 => ?_)))
 have hfr := hfr.ext hs
 have rp1 := rp1.ext hs
 iterate 4 refine EL_at (.int .i64 (0)) rfl rfl ?_
 refine EL_nil (thn_n (E_joinC h (fun (s : Unit) e w => ∃ (g : Gh) , Fr gI wI g w ∧ e 1 = up1 ∧ RV g.m w (x1 : List Str) up1 ∧ e 2 = p1 ∧ PT g.m w (x0 : TieHarness) p1) (fun X6 k6 hk6 h => ?_) ?_))
 ·refine E_seq (E_region (EL_do .plain rfl (D_load (g := g1) Tryd.isAgg52 Tryd.sizeOf52 rfl q1 fun v7 r7 => ?_)))
  refine EL_mw up1 rfl rfl ?_
  obtain ⟨y9, z9, h⟩ := bsome h
  refine EL_do .plain rfl (D_call (g := g1) (vs := [v7, up1]) en66 (.cons rfl (.cons rfl .nil)) (wk66 r7 rp1 z9) fun g8 w8_ v8 hs hr => ?_)
  have hfr := hfr.ext hs
  have rp1 := rp1.ext hs
  have q1 := q1.ext hs
  subst hr
  refine EL_at (.int .i64 (y9)) rfl rfl ?_
  refine EL_nil (thn_n (E_seq (E_region (EL_mw (.int .i64 (y9)) rfl rfl ?_))))
  refine EL_in (.bool ((y9 != (0 : Int)))) rfl rfl rfl rfl ?_
  refine EL_nil (thn_n ?_)
  rcases csome h with ⟨x5, h⟩ | ⟨x5, h⟩
  ·refine E_ct x5 rfl ?_
   refine E_seq (E_region (EL_mw (.int .i64 (y9)) rfl rfl ?_))
   iterate 3 refine EL_at (.int .i64 (0)) rfl rfl ?_
   refine EL_at (.int .i64 (y9)) rfl rfl ?_
   refine EL_nil (thn_n (E_ret (thn_r ?_)))
   obtain rfl := sinj h
   exact end4 rfl rfl (show _ = .int .i64 (0) from rfl) (show _ = .int .i64 (0) from rfl) (show _ = .int .i64 (0) from rfl) (show _ = .int .i64 (y9) from rfl) ⟨_, hfr, _, _, _, _, rfl, rfl, rfl, rfl, rfl⟩
  ·refine E_cf x5 rfl ?_
   exact E_skip (thn_n (hk6 () _ _ ⟨g8, hfr, rfl, rp1, rfl, q1⟩ h))
 ·rintro _ dB mB ⟨x6, hfr, i7, m7, k8, l8⟩ h
  refine E_seq (E_region (EL_do .plain rfl (D_load (g := x6) Tryd.isAgg52 Tryd.sizeOf52 k8 l8 fun y6 a9 => ?_)))
  have d9 : RV x6.m _ (⟨x0⟩ : TieTieHarness) (.agg (setCh [[.int .i64 0, .slice none 0 0]] [(0, y6)]).flatten.toArray) := RV_build rfl (rep_last (RV.cells a9))
  generalize l9 : (Value.agg (setCh [[.int .i64 0, .slice none 0 0]] [(0, y6)]).flatten.toArray) = k9 at d9
  refine EL_p k9 (l9 ▸ P_build (vs := [(0, y6)]) [[.int .i64 0, .slice none 0 0]] lay_129 rfl rfl (.cons rfl .nil) ⟨⟨_, rfl, cells_size a9⟩, trivial⟩) rfl ?_
  refine EL_mv i7 rfl ?_
  obtain ⟨o0, n9, h⟩ := bsome h
  refine EL_do .plain rfl (D_call (g := x6) (vs := [k9, up1]) en67 (.cons rfl (.cons rfl .nil)) (wk67 d9 m7 n9) fun bA iB nB hs hr => ?_)
  have hfr := hfr.ext hs
  obtain ⟨iA, rA, yA, aB, rfl, rfl, rfl, rfl, rfl⟩ := hr
  refine EL_mw (.tuple #[.int .i64 (o0.1), .int .i64 (o0.2.1), .int .i64 (o0.2.2.1), .bool (o0.2.2.2)]) rfl rfl ?_
  refine EL_p (.int .i64 (o0.1)) (P_extract rfl rfl) rfl ?_
  refine EL_p (.int .i64 (o0.2.1)) (P_extract rfl rfl) rfl ?_
  refine EL_p (.int .i64 (o0.2.2.1)) (P_extract rfl rfl) rfl ?_
  refine EL_p (.bool (o0.2.2.2)) (P_extract rfl rfl) rfl ?_
  refine EL_at (.int .i64 (o0.1)) rfl rfl ?_
  refine EL_at (.int .i64 (o0.2.1)) rfl rfl ?_
  refine EL_at (.int .i64 (o0.2.2.1)) rfl rfl ?_
  refine EL_at (.bool (o0.2.2.2)) rfl rfl ?_
  refine EL_nil (thn_n (E_joinC h (fun (s : Int × Int × Int) e w => ∃ (g : Gh) , Fr gI wI g w ∧ e 4 = .int .i64 (s.1) ∧ e 5 = .int .i64 (s.2.1) ∧ e 6 = .int .i64 (s.2.2)) (fun X17 x8 u9 h => ?_) ?_))
  ·refine E_seq (E_region (EL_mw (.bool (o0.2.2.2)) rfl rfl ?_))
   refine EL_p (.bool (!o0.2.2.2)) (P_not rfl) rfl ?_
   refine EL_nil (thn_n ?_)
   rcases csome h with ⟨i6, h⟩ | ⟨i6, h⟩
   ·refine E_ct i6 rfl ?_
    refine E_seq (E_region ?_)
    iterate 3 refine EL_at (.int .i64 (0)) rfl rfl ?_
    refine EL_at (.int .i64 (7)) rfl rfl ?_
    refine EL_nil (thn_n (E_ret (thn_r ?_)))
    obtain rfl := sinj h
    exact end4 rfl rfl (show _ = .int .i64 (0) from rfl) (show _ = .int .i64 (0) from rfl) (show _ = .int .i64 (0) from rfl) (show _ = .int .i64 (7) from rfl) ⟨_, hfr, _, _, _, _, rfl, rfl, rfl, rfl, rfl⟩
   ·refine E_cf i6 rfl ?_
    exact E_skip (thn_n (u9 (o0.1, o0.2.1, o0.2.2.1) _ _ ⟨bA, hfr, rfl, rfl, rfl⟩ h))
  ·rintro ⟨u3, l5, t5⟩ lB oB ⟨tB, hfr, m8, n8, r8⟩ h
   refine E_seq (E_region (EL_mv m8 rfl ?_))
   refine EL_mv n8 rfl ?_
   refine EL_mv r8 rfl ?_
   refine EL_at (.int .i64 (u3)) rfl rfl ?_
   refine EL_at (.int .i64 (l5)) rfl rfl ?_
   refine EL_at (.int .i64 (t5)) rfl rfl ?_
   refine EL_at (.int .i64 (0)) rfl rfl ?_
   refine EL_nil (thn_n (E_ret ?_))
   obtain rfl := sinj h
   exact end4 rfl rfl (show _ = .int .i64 (u3) from rfl) (show _ = .int .i64 (l5) from rfl) (show _ = .int .i64 (t5) from rfl) (show _ = .int .i64 (0) from rfl) ⟨_, hfr, _, _, _, _, rfl, rfl, rfl, rfl, rfl⟩
def f5 (x0 : Loom) : Option (Bool) :=
 (f13 x0).bind fun y4 =>
 (f14 x0).bind fun y7 =>
 (f26 ((((y4).Warps).length : Int)) ((x0).Cards)).bind fun qK =>
 (f16 y4).bind fun eF =>
 (f28 qK).bind fun rF =>
 (f17 y7).bind fun sF =>
 (f27 eF rF sF).bind fun x5 =>
 (f16 y4).bind fun mP =>
 (f29 mP qK).bind fun y74 =>
 (f16 y4).bind fun nP =>
 (f19 ((x5.1 : List Str))).bind fun y79 =>
 (f30 nP y79).bind fun y81 =>
 (f16 y4).bind fun oP =>
 (f19 ((x5.1 : List Str))).bind fun pP =>
 (f31 oP pP).bind fun o0 =>
 (f19 ((x5.1 : List Str))).bind fun sP =>
 (f18 sP).bind fun m7 =>
 jn (σ := Unit) (fun _ =>
  Option.bind (α := (List (Int × Bool))) (
   lp (σ := (List (Int × Bool)) × Int) (fun sK (mC, i7) =>
    jn (σ := Unit) (fun _ =>
     Option.bind (α := (List (Int × Bool))) (
      (idx (y74.1) i7).bind fun tK =>
      some ((mset mC tK true))
      ) fun qC =>
     sK (qC, (w64 (i7 + (1 : Int))))
     ) fun uK =>
    bif (decide (i7 < ((y74.1).length : Int))) then
     uK ()
    else
     some (mC)
    ) big (([] : List (Int × Bool)), (0 : Int))
   ) fun x6 =>
  jn (σ := Unit) (fun _ =>
   (f16 y4).bind fun y277 =>
   (f17 (y81.1)).bind fun lD =>
   (f15 y277 lD).bind fun y6 =>
   jn (σ := Unit) (fun _ =>
    jn (σ := Unit) (fun _ =>
     Option.bind (α := Bool) (
      (f25).bind fun zD =>
      bif zD then
       (f32).bind fun mG =>
       some (mG)
      else
       some (false)
      ) fun rC =>
     some (rC)
     ) fun vK =>
    bif (((y74.1).length : Int) == (0 : Int)) then
     (f15 y4 y7).bind fun u9 =>
     Option.bind (α := Bool) (
      bif (u9.2 == (0 : Int)) then
       (f23 ((x5.1 : List Str)) (u9.1)).bind fun nD =>
       bif nD then
        (f25).bind fun oD =>
        bif oD then
         (f32).bind fun sG =>
         some (sG)
        else
         some (false)
       else
        some (false)
      else
       some (false)
      ) fun uC =>
     some (uC)
    else
     vK ()
    ) fun xK =>
   Option.bind (α := Bool) (
    bif (y6.2 != (0 : Int)) then
     some (true)
    else
     (f23 ((y6.1 : List Str)) ((x5.1 : List Str))).bind fun xG =>
     some ((!xG))
    ) fun y9 =>
   bif y9 then
    some (false)
   else
    xK ()
   ) fun yK =>
  bif (y81.2 != (0 : Int)) then
   Option.bind (α := Bool) (
    bif (o0.2.2.2 == (0 : Int)) then
     bif (decide (o0.1 ≥ (0 : Int))) then
      bif (decide (o0.1 < (((x5.1 : List Str)).length : Int))) then
       bif (decide (o0.2.1 > o0.2.2.1)) then
        bif (decide (o0.2.2.1 ≥ (0 : Int))) then
         bif (decide (o0.2.1 < (((y4).Warps).length : Int))) then
          bif ((mget x6 (o0.2.1)).getD (false : Bool)) then
           (f25).bind fun sD =>
           bif sD then
            (f32).bind fun yG =>
            some (yG)
           else
            some (false)
          else
           bif ((mget x6 (o0.2.2.1)).getD (false : Bool)) then
            (f25).bind fun tD =>
            bif tD then
             (f32).bind fun zG =>
             some (zG)
            else
             some (false)
           else
            some (false)
         else
          some (false)
        else
         some (false)
       else
        some (false)
      else
       some (false)
     else
      some (false)
    else
     some (false)
    ) fun vC =>
   some (vC)
  else
   yK ()
  ) fun zK =>
 Option.bind (α := Bool) (
  bif (x5.2 != (0 : Int)) then
   some (true)
  else
   bif (y74.2 != (0 : Int)) then
    some (true)
   else
    bif (m7.2.2 != (0 : Int)) then
     some (true)
    else
     bif (decide ((m7.1).Hooks > (w64 ((y4).Hooks + (1 : Int))))) then
      some (true)
     else
      bif (decide ((m7.1).Hooks < (1 : Int))) then
       some (true)
      else
       bif (!((y81.2 == (0 : Int)) == (o0.2.2.2 == (7 : Int)))) then
        some (true)
       else
        bif (y81.2 != (0 : Int)) then
         some ((y81.2 != (9 : Int)))
        else
         some (false)
  ) fun z9 =>
 bif z9 then
  some (false)
 else
  zK ()
theorem wk5 {gI : Gh} {wI : World} {x0 : Loom} {up0 : Value} (rp0 : RV gI.m wI x0 up0) {r : Bool} (h : f5 x0 = some r) : Fn Tryd.prog 5 #[up0] gI wI (fun _ _ v => v = .bool (r)) := by
 unfold f5 at h
 refine fn_of_E Tryd.func5 rfl (Nat.le_of_ble_eq_true rfl) fun g0 hm hfr => ?_
 have rp0 : RV g0.m wI x0 up0 := hm ▸ rp0
 show E _ 215 none _ _ _ _ _
 refine E_seq (E_region (EL_do .plain rfl (D_box (g := g0) rfl rp0 fun g1 w1 p1 hs q1 => ?_)))
 have hfr := hfr.ext hs
 refine EL_at (.bool false) rfl rfl ?_
 refine EL_nil (thn_n (E_seq (L_load (x := .tmp 1) Tryd.isAgg50 Tryd.sizeOf50 q1 fun v2 r2 hl2 => ?_)))
 obtain ⟨y4, eS, h⟩ := bsome h
 refine L_load (x := .tmp 1) Tryd.isAgg50 Tryd.sizeOf50 q1 fun v5 r5 gS => ?_
 obtain ⟨y7, iS, h⟩ := bsome h
 refine E_drawL (g := g1) (n := 6) [(1, (fun v g w => RV g.m w y4 v)), (3, (fun v g w => RV g.m w y7 v)), (4, (fun v g w => OB 2003 g w 52 (⟨0, []⟩ : TieHarness) v)), (5, (fun v g w => OB 2004 g w 55 (⟨0, []⟩ : Design) v))] [0, 1, 2, 3, 4, 5] rfl mixed (by kernel_rfl) (⟨fun _ => up_rv, fun _ => up_rv, fun _ => up_ob, fun _ => up_ob, trivial⟩) ?_
 refine L_ld (c := v2) rfl rfl .plain (fun _ _ h => h.ch) hl2 rfl ?_
 refine L_do (φ := fun v g w => RV g.m w y4 v) rfl rfl .plain (fun g w hd => D_call (g := g) (vs := [v2]) en13 (.cons rfl .nil) (wk13 (r2.ext hd.1) eS) fun g' w' v hs hr => ⟨g', hs, hr⟩) (fun v3 hv => ?_)
 obtain ⟨_, _, _, rq3⟩ := hv
 refine L_ld (c := v5) rfl rfl .plain (fun _ _ h => h.ch) gS rfl ?_
 refine L_do (φ := fun v g w => RV g.m w y7 v) rfl rfl .plain (fun g w hd => D_call (g := g) (vs := [v5]) en14 (.cons rfl .nil) (wk14 (r5.ext hd.1) iS) fun g' w' v hs hr => ⟨g', hs, hr⟩) (fun v6 hv => ?_)
 obtain ⟨_, _, _, rq6⟩ := hv
 refine L_do (φ := fun v g w => OB 2003 g w 52 (⟨0, []⟩ : TieHarness) v) rfl rfl .plain (fun g w hd => D_allocX (g := g) 2003 (⟨0, []⟩ : TieHarness) Tryd.zeroValue52 (fun m w => ⟨_, (rep_two rep_int rep_nil), rfl⟩) fun g' w' v hs b => ⟨g', hs, b⟩) (fun v8 hv => ?_)
 clear hv
 refine L_do (φ := fun v g w => OB 2004 g w 55 (⟨0, []⟩ : Design) v) rfl rfl .plain (fun g w hd => D_allocX (g := g) 2004 (⟨0, []⟩ : Design) Tryd.zeroValue55 (fun m w => ⟨_, (rep_two rep_int rep_nil), rfl⟩) fun g' w' v hs b => ⟨g', hs, b⟩) (fun v9 hv => ?_)
 clear hv
 refine L_nil fun jS mY hall => ?_
 have hs := hall.1
 have hfr := hfr.ext hs
 have q1 := q1.ext hs
 have lS := (word_all (A := fun g w => RV g.m w y4 v3) 1 rfl hall)
 have aL := (word_all (A := fun g w => RV g.m w y7 v6) 3 rfl hall)
 have b18 := (word_all (A := fun g w => OB 2003 g w 52 (⟨0, []⟩ : TieHarness) v8) 4 rfl hall)
 have b19 := (word_all (A := fun g w => OB 2004 g w 55 (⟨0, []⟩ : Design) v9) 5 rfl hall)
 clear hs hall
 refine EL_do .plain rfl (D_storeOc (g := jS) (v := v3) Tryd.sizeOf52 rfl b18 rfl lS fun mS nY hs b20 cb => ?_)
 clear cb
 have hfr := hfr.stp hs
 have q1 := q1.stp hs
 have aL := aL.stp hs
 have b19 := b19.stp hs rfl
 refine EL_do .plain rfl (D_storeOc (g := mS) (v := v6) Tryd.sizeOf55 rfl b19 rfl aL fun bL oY hs b21 cb => ?_)
 clear cb
 have hfr := hfr.stp hs
 have q1 := q1.stp hs
 have b20 := b20.stp hs rfl
 refine EL_nil (thn_n (E_seq (E_region (EL_p (fPtr v8 1) (P_fieldAddr at_52_1 rfl (OB.ptr b20)) rfl ?_))))
 refine EL_do .plain rfl (D_loadF (g := bL) part_TieHarness_1.1 Tryd.isAgg34 Tryd.sizeOf34 rfl b20 fun pY nS => ?_)
 refine EL_p (.int .i64 (((y4).Warps).length : Int)) (P_len Tryd.underlying34 rfl nS) rfl ?_
 refine EL_at (.int .i64 (((y4).Warps).length : Int)) rfl rfl ?_
 refine EL_nil (thn_n (E_seq (E_region (EL_mw (.int .i64 (((y4).Warps).length : Int)) rfl rfl ?_))))
 refine EL_p (fPtr p1 3) (P_fieldAddr at_50_3 rfl (PT.ptr q1)) rfl ?_
 have oS := PT_field (part_Loom_3).1 q1
 refine EL_do .plain rfl (D_load (g := bL) Tryd.isAgg47 Tryd.sizeOf47 rfl oS fun pS qS => ?_)
 obtain ⟨qK, dQ, h⟩ := bsome h
 refine EL_do .plain rfl (D_call (g := bL) (vs := [.int .i64 (((y4).Warps).length : Int), pS]) en26 (.cons rfl (.cons rfl .nil)) (wk26 qS dQ) fun rS dW oH hs hr => ?_)
 have hfr := hfr.ext hs
 have b20 := b20.ext hs
 have b21 := b21.ext hs
 have tF := hr
 refine EL_at oH rfl rfl ?_
 refine EL_nil (thn_n (E_seq (L_loadO0 (x := .tmp 3) Tryd.isAgg52 Tryd.sizeOf52 b20 fun tP sS eQ => ?_)))
 obtain ⟨eF, gQ, h⟩ := bsome h
 obtain ⟨rF, iQ, h⟩ := bsome h
 refine L_loadO0 (x := .tmp 4) Tryd.isAgg55 Tryd.sizeOf55 b21 fun uP tS jQ => ?_
 obtain ⟨sF, kQ, h⟩ := bsome h
 obtain ⟨x5, lQ, h⟩ := bsome h
 refine E_drawL (g := rS) (n := 12) [(1, (fun v g w => RV g.m w eF v)), (3, (fun v g w => RV g.m w rF v)), (5, (fun v g w => RV g.m w sF v)), (6, (fun v g w => ∃ y0 y1 : Value, v = .tuple #[y0, y1] ∧ RV g.m w (x5.1 : List Str) y0 ∧ y1 = .int .i64 (x5.2)))] [0, 1, 2, 3, 4, 5, 6, 7, 8, 9, 10, 11] rfl mixed (by kernel_rfl) (⟨fun _ => up_rv, fun _ => up_rv, fun _ => up_rv, fun _ => (up_ex fun _ => (up_ex fun _ => (up_and (up_eq _) (up_and up_rv (up_eq _))))), trivial⟩) ?_
 refine L_ld (c := tP) rfl rfl .plain (fun _ _ h => ⟨h.ch, fun b hb _ => h.below.block b hb⟩) eQ rfl ?_
 refine L_do (φ := fun v g w => RV g.m w eF v) rfl rfl .plain (fun g w hd => D_call (g := g) (vs := [tP]) en16 (.cons rfl .nil) (wk16 (sS.ext hd.1) gQ) fun g' w' v hs hr => ⟨g', hs, hr⟩) (fun dL hv => ?_)
 obtain ⟨_, _, _, rq29⟩ := hv
 refine L_p oH rfl rfl (P_move rfl) ?_
 refine L_do (φ := fun v g w => RV g.m w rF v) rfl rfl .plain (fun g w hd => D_call (g := g) (vs := [oH]) en28 (.cons rfl .nil) (wk28 (tF.ext hd.1) iQ) fun g' w' v hs hr => ⟨g', hs, hr⟩) (fun eL hv => ?_)
 obtain ⟨_, _, _, rq31⟩ := hv
 refine L_ld (c := uP) rfl rfl .plain (fun _ _ h => ⟨h.ch, fun b hb _ => h.below.block b hb⟩) jQ rfl ?_
 refine L_do (φ := fun v g w => RV g.m w sF v) rfl rfl .plain (fun g w hd => D_call (g := g) (vs := [uP]) en17 (.cons rfl .nil) (wk17 (tS.ext hd.1) kQ) fun g' w' v hs hr => ⟨g', hs, hr⟩) (fun gL hv => ?_)
 obtain ⟨_, _, _, rq34⟩ := hv
 refine L_do (φ := fun v g w => ∃ y0 y1 : Value, v = .tuple #[y0, y1] ∧ RV g.m w (x5.1 : List Str) y0 ∧ y1 = .int .i64 (x5.2)) rfl rfl .plain (fun g w hd => D_call (g := g) (vs := [dL, eL, gL]) en27 (.cons rfl (.cons rfl (.cons rfl .nil))) (wk27 (word (A := fun g w => RV g.m w eF dL) 1 rfl rfl (deps_of hd)) (word (A := fun g w => RV g.m w rF eL) 3 rfl rfl (deps_of hd)) (word (A := fun g w => RV g.m w sF gL) 5 rfl rfl (deps_of hd)) lQ) fun g' w' v hs hr => ⟨g', hs, hr⟩) (fun qY hv => ?_)
 obtain ⟨_, _, _, l5, _, rfl, uS, rfl⟩ := hv
 refine L_p (.tuple #[l5, .int .i64 (x5.2)]) rfl rfl (P_move rfl) ?_
 refine L_p l5 rfl rfl (P_extract rfl rfl) ?_
 refine L_p (.int .i64 (x5.2)) rfl rfl (P_extract rfl rfl) ?_
 refine L_p l5 rfl rfl (P_assign rfl) ?_
 refine L_p (.int .i64 (x5.2)) rfl rfl (P_assign rfl) ?_
 refine L_nil fun vP uY hall => ?_
 have hs := hall.1
 have hfr := hfr.ext hs
 have b20 := b20.ext hs
 have b21 := b21.ext hs
 have tF := tF.ext hs
 have vY := (word_all (A := fun g w => RV g.m w eF dL) 1 rfl hall)
 have xY := (word_all (A := fun g w => RV g.m w rF eL) 3 rfl hall)
 have yY := (word_all (A := fun g w => RV g.m w sF gL) 5 rfl hall)
 have zY := (tup2_0 (word_all (A := fun g w => ∃ y0 y1 : Value, Value.tuple #[l5, .int .i64 (x5.2)] = .tuple #[y0, y1] ∧ RV g.m w (x5.1 : List Str) y0 ∧ y1 = .int .i64 (x5.2)) 6 rfl hall))
 have t5 := (tup2_0 (word_all (A := fun g w => ∃ y0 y1 : Value, Value.tuple #[l5, .int .i64 (x5.2)] = .tuple #[y0, y1] ∧ RV g.m w (x5.1 : List Str) y0 ∧ y1 = .int .i64 (x5.2)) 6 rfl hall))
 clear hs hall
 refine EL_nil (thn_n (E_seq (E_region (EL_do .plain rfl (D_loadO (g := vP) Tryd.isAgg52 Tryd.sizeOf52 rfl b20 fun vS xS => ?_)))))
 obtain ⟨mP, mQ, h⟩ := bsome h
 refine EL_do .plain rfl (D_call (g := vP) (vs := [vS]) en16 (.cons rfl .nil) (wk16 xS mQ) fun yS eW zS hs hr => ?_)
 have hfr := hfr.ext hs
 have b20 := b20.ext hs
 have b21 := b21.ext hs
 have tF := tF.ext hs
 have t5 := t5.ext hs
 have eT := hr
 refine EL_mw oH rfl rfl ?_
 obtain ⟨y74, nQ, h⟩ := bsome h
 refine EL_do .plain rfl (D_call (g := yS) (vs := [zS, oH]) en29 (.cons rfl (.cons rfl .nil)) (wk29 eT tF nQ) fun xP gW aZ hs hr => ?_)
 have hfr := hfr.ext hs
 have b20 := b20.ext hs
 have b21 := b21.ext hs
 have t5 := t5.ext hs
 obtain ⟨i6, rU, rfl, u3, rfl⟩ := hr
 refine EL_mw (.tuple #[i6, .int .i64 (y74.2)]) rfl rfl ?_
 refine EL_p i6 (P_extract rfl rfl) rfl ?_
 refine EL_p (.int .i64 (y74.2)) (P_extract rfl rfl) rfl ?_
 refine EL_at i6 rfl rfl ?_
 refine EL_at (.int .i64 (y74.2)) rfl rfl ?_
 refine EL_nil (thn_n (E_seq (E_region (EL_do .plain rfl (D_loadO (g := xP) Tryd.isAgg52 Tryd.sizeOf52 rfl b20 fun lT mT => ?_)))))
 obtain ⟨nP, oQ, h⟩ := bsome h
 refine EL_do .plain rfl (D_call (g := xP) (vs := [lT]) en16 (.cons rfl .nil) (wk16 mT oQ) fun nT iW oT hs hr => ?_)
 have hfr := hfr.ext hs
 have b20 := b20.ext hs
 have b21 := b21.ext hs
 have t5 := t5.ext hs
 have u3 := u3.ext hs
 have iL := hr
 refine EL_mw l5 rfl rfl ?_
 obtain ⟨y79, pQ, h⟩ := bsome h
 refine EL_do .plain rfl (D_call (g := nT) (vs := [l5]) en19 (.cons rfl .nil) (wk19 t5 pQ) fun pT jW sT hs hr => ?_)
 have hfr := hfr.ext hs
 have b20 := b20.ext hs
 have b21 := b21.ext hs
 have t5 := t5.ext hs
 have u3 := u3.ext hs
 have iL := iL.ext hs
 have tT := hr
 obtain ⟨y81, qQ, h⟩ := bsome h
 refine EL_do .plain rfl (D_call (g := pT) (vs := [oT, sT]) en30 (.cons rfl (.cons rfl .nil)) (wk30 iL tT qQ) fun uT kW bZ hs hr => ?_)
 have hfr := hfr.ext hs
 have b20 := b20.ext hs
 have b21 := b21.ext hs
 have t5 := t5.ext hs
 have u3 := u3.ext hs
 obtain ⟨aH, sU, rfl, cH, rfl⟩ := hr
 refine EL_mw (.tuple #[aH, .int .i64 (y81.2)]) rfl rfl ?_
 refine EL_p aH (P_extract rfl rfl) rfl ?_
 refine EL_p (.int .i64 (y81.2)) (P_extract rfl rfl) rfl ?_
 refine EL_do .plain rfl (D_allocOc (g := uT) 2011 (⟨0, []⟩ : Design) Tryd.zeroValue55 (fun m w => ⟨_, (rep_two rep_int rep_nil), rfl⟩) fun yP xT bA hs b82 cb => ?_)
 have hfr := hfr.stp hs
 have b20 := b20.stp hs rfl
 have b21 := b21.stp hs rfl
 have t5 := t5.stp hs
 have u3 := u3.stp hs
 have cH := cH.stp hs
 have tU : OSF 2011 61101 1 yP xT 3 55 ([] : List Int) bA := cb.osf (by rfl)
 clear cb
 refine EL_do .plain rfl (D_storeOc (g := yP) (v := aH) Tryd.sizeOf55 rfl b82 rfl cH fun zP cZ hs b83 cb => ?_)
 clear cb
 have hfr := hfr.stp hs
 have b20 := b20.stp hs rfl
 have b21 := b21.stp hs rfl
 have t5 := t5.stp hs
 have u3 := u3.stp hs
 refine EL_at (.int .i64 (y81.2)) rfl rfl ?_
 refine EL_nil (thn_n (E_seq (E_region (EL_do .plain rfl (D_loadO (g := zP) Tryd.isAgg52 Tryd.sizeOf52 rfl b20 fun yT zT => ?_)))))
 obtain ⟨oP, rQ, h⟩ := bsome h
 refine EL_do .plain rfl (D_call (g := zP) (vs := [yT]) en16 (.cons rfl .nil) (wk16 zT rQ) fun aU lW bU hs hr => ?_)
 have hfr := hfr.ext hs
 have b20 := b20.ext hs
 have b21 := b21.ext hs
 have t5 := t5.ext hs
 have u3 := u3.ext hs
 have b83 := b83.ext hs
 have jL := hr
 refine EL_mw l5 rfl rfl ?_
 obtain ⟨pP, sQ, h⟩ := bsome h
 refine EL_do .plain rfl (D_call (g := aU) (vs := [l5]) en19 (.cons rfl .nil) (wk19 t5 sQ) fun cU mW dU hs hr => ?_)
 have hfr := hfr.ext hs
 have b20 := b20.ext hs
 have b21 := b21.ext hs
 have t5 := t5.ext hs
 have u3 := u3.ext hs
 have b83 := b83.ext hs
 have jL := jL.ext hs
 have eU := hr
 obtain ⟨o0, tQ, h⟩ := bsome h
 refine EL_do .plain rfl (D_call (g := cU) (vs := [bU, dU]) en31 (.cons rfl (.cons rfl .nil)) (wk31 jL eU tQ) fun gU nW dZ hs hr => ?_)
 have hfr := hfr.ext hs
 have b20 := b20.ext hs
 have b21 := b21.ext hs
 have t5 := t5.ext hs
 have u3 := u3.ext hs
 have b83 := b83.ext hs
 obtain ⟨uU, vU, xU, yU, rfl, rfl, rfl, rfl, rfl⟩ := hr
 refine EL_mw (.tuple #[.int .i64 (o0.1), .int .i64 (o0.2.1), .int .i64 (o0.2.2.1), .int .i64 (o0.2.2.2)]) rfl rfl ?_
 refine EL_p (.int .i64 (o0.1)) (P_extract rfl rfl) rfl ?_
 refine EL_p (.int .i64 (o0.2.1)) (P_extract rfl rfl) rfl ?_
 refine EL_p (.int .i64 (o0.2.2.1)) (P_extract rfl rfl) rfl ?_
 refine EL_p (.int .i64 (o0.2.2.2)) (P_extract rfl rfl) rfl ?_
 refine EL_at (.int .i64 (o0.1)) rfl rfl ?_
 refine EL_at (.int .i64 (o0.2.1)) rfl rfl ?_
 refine EL_at (.int .i64 (o0.2.2.1)) rfl rfl ?_
 refine EL_at (.int .i64 (o0.2.2.2)) rfl rfl ?_
 refine EL_nil (thn_n (E_seq (E_region (EL_mw l5 rfl rfl ?_))))
 obtain ⟨sP, uQ, h⟩ := bsome h
 refine EL_do .plain rfl (D_call (g := gU) (vs := [l5]) en19 (.cons rfl .nil) (wk19 t5 uQ) fun iU oW jU hs hr => ?_)
 have hfr := hfr.ext hs
 have b20 := b20.ext hs
 have b21 := b21.ext hs
 have t5 := t5.ext hs
 have u3 := u3.ext hs
 have b83 := b83.ext hs
 have kU := hr
 obtain ⟨m7, vQ, h⟩ := bsome h
 refine EL_do .plain rfl (D_call (g := iU) (vs := [jU]) en18 (.cons rfl .nil) (wk18 kU vQ) fun lU pW mZ hs hr => ?_)
 have hfr := hfr.ext hs
 have b20 := b20.ext hs
 have b21 := b21.ext hs
 have t5 := t5.ext hs
 have u3 := u3.ext hs
 have b83 := b83.ext hs
 obtain ⟨dH, gH, zU, rfl, aD, lB, rfl⟩ := hr
 refine EL_mw (.tuple #[dH, gH, .int .i64 (m7.2.2)]) rfl rfl ?_
 refine EL_p dH (P_extract rfl rfl) rfl ?_
 refine EL_p gH (P_extract rfl rfl) rfl ?_
 refine EL_p (.int .i64 (m7.2.2)) (P_extract rfl rfl) rfl ?_
 refine EL_do .plain rfl (D_allocOc (g := lU) 2017 (⟨0, []⟩ : TieHarness) Tryd.zeroValue52 (fun m w => ⟨_, (rep_two rep_int rep_nil), rfl⟩) fun bQ mU lL hs b95 cb => ?_)
 have hfr := hfr.stp hs
 have b20 := b20.stp hs rfl
 have b21 := b21.stp hs rfl
 have t5 := t5.stp hs
 have u3 := u3.stp hs
 have b83 := b83.stp hs rfl
 have aD := aD.stp hs
 have lB := lB.stp hs
 have aV : OSF 2017 61701 1 bQ mU 3 52 ([] : List Int) lL := cb.osf (by rfl)
 clear cb
 refine EL_do .plain rfl (D_allocOc (g := bQ) 2018 (⟨0, []⟩ : Design) Tryd.zeroValue55 (fun m w => ⟨_, (rep_two rep_int rep_nil), rfl⟩) fun cQ nU oU hs b96 cb => ?_)
 have hfr := hfr.stp hs
 have b20 := b20.stp hs rfl
 have b21 := b21.stp hs rfl
 have t5 := t5.stp hs
 have u3 := u3.stp hs
 have b83 := b83.stp hs rfl
 have aD := aD.stp hs
 have lB := lB.stp hs
 have b95 := b95.stp hs rfl
 have bV : OSF 2018 61801 1 cQ nU 3 55 ([] : List Int) oU := cb.osf (by rfl)
 clear cb
 refine EL_do .plain rfl (D_storeOc (g := cQ) (v := dH) Tryd.sizeOf52 rfl b95 rfl aD fun pU nZ hs b97 cb => ?_)
 clear cb
 have hfr := hfr.stp hs
 have b20 := b20.stp hs rfl
 have b21 := b21.stp hs rfl
 have t5 := t5.stp hs
 have u3 := u3.stp hs
 have b83 := b83.stp hs rfl
 have lB := lB.stp hs
 have b96 := b96.stp hs rfl
 refine EL_do .plain rfl (D_storeOc (g := pU) (v := gH) Tryd.sizeOf55 rfl b96 rfl lB fun yB oZ hs b98 cb => ?_)
 clear cb
 have hfr := hfr.stp hs
 have b20 := b20.stp hs rfl
 have b21 := b21.stp hs rfl
 have t5 := t5.stp hs
 have u3 := u3.stp hs
 have b83 := b83.stp hs rfl
 have b97 := b97.stp hs rfl
 refine EL_at (.int .i64 (m7.2.2)) rfl rfl ?_
 refine EL_nil (thn_n (E_joinC h (fun (s : Unit) e w => ∃ (g : Gh) , Fr gI wI g w ∧ e 3 = v8 ∧ OB 2003 g w 52 (y4 : TieHarness) v8 ∧ e 4 = v9 ∧ OB 2004 g w 55 (y7 : Design) v9 ∧ e 5 = .int .i64 ((((y4).Warps).length : Int)) ∧ e 7 = l5 ∧ RV g.m w ((x5.1 : List Str) : List Str) l5 ∧ e 9 = i6 ∧ RV g.m w (y74.1 : List Int) i6 ∧ e 11 = bA ∧ OB 2011 g w 55 (y81.1 : Design) bA ∧ e 12 = .int .i64 (y81.2) ∧ e 13 = .int .i64 (o0.1) ∧ e 14 = .int .i64 (o0.2.1) ∧ e 15 = .int .i64 (o0.2.2.1) ∧ e 16 = .int .i64 (o0.2.2.2)) (fun X127 zK nO h => ?_) ?_))
 ·obtain ⟨z9, hx, h⟩ := bsome h
  refine E_join (fun e w => ∃ (g : Gh) , Fr gI wI g w ∧ e 3 = v8 ∧ OB 2003 g w 52 (y4 : TieHarness) v8 ∧ e 4 = v9 ∧ OB 2004 g w 55 (y7 : Design) v9 ∧ e 5 = .int .i64 ((((y4).Warps).length : Int)) ∧ e 7 = l5 ∧ RV g.m w ((x5.1 : List Str) : List Str) l5 ∧ e 9 = i6 ∧ RV g.m w (y74.1 : List Int) i6 ∧ e 11 = bA ∧ OB 2011 g w 55 (y81.1 : Design) bA ∧ e 12 = .int .i64 (y81.2) ∧ e 13 = .int .i64 (o0.1) ∧ e 14 = .int .i64 (o0.2.1) ∧ e 15 = .int .i64 (o0.2.2.1) ∧ e 16 = .int .i64 (o0.2.2.2) ∧ e 116 = .bool (z9)) (fun Q' hQ => ?_) (fun cV qW hR => ?_)
  ·replace h := hx
   clear hx
   refine E_region (EL_mw (.int .i64 (x5.2)) rfl rfl ?_)
   refine EL_in (.bool ((x5.2 != (0 : Int)))) rfl rfl rfl rfl ?_
   refine EL_mw (.bool ((x5.2 != (0 : Int)))) rfl rfl ?_
   rcases csome h with ⟨mB, h⟩ | ⟨mB, h⟩
   ·refine EL_s rfl rfl mB rfl rfl ?_
    refine EL_s rfl rfl mB rfl rfl ?_
    refine EL_p (.bool true) (P_pick (b := (x5.2 != (0 : Int))) rfl (pick_t mB rfl)) rfl ?_
    refine EL_dead 32 rfl ?_
    refine EL_nil ?_
    obtain rfl := sinj h
    exact hQ _ _ ⟨yB, hfr, rfl, b20, rfl, b21, rfl, rfl, t5, rfl, u3, rfl, b83, rfl, rfl, rfl, rfl, rfl, rfl⟩
   ·refine EL_y (.int .i64 (y74.2)) (P_move rfl) rfl rfl mB rfl ?_
    refine EL_y (.bool ((y74.2 != (0 : Int)))) (P_int rfl rfl rfl) rfl rfl mB rfl ?_
    refine EL_p (.bool ((y74.2 != (0 : Int)))) (P_pick (b := (x5.2 != (0 : Int))) rfl (pick_f mB rfl)) rfl ?_
    refine EL_mw (.bool ((y74.2 != (0 : Int)))) rfl rfl ?_
    rcases csome h with ⟨nB, h⟩ | ⟨nB, h⟩
    ·refine EL_s rfl rfl nB rfl rfl ?_
     refine EL_s rfl rfl nB rfl rfl ?_
     refine EL_p (.bool true) (P_pick (b := (y74.2 != (0 : Int))) rfl (pick_t nB rfl)) rfl ?_
     refine EL_dead 28 rfl ?_
     refine EL_nil ?_
     obtain rfl := sinj h
     exact hQ _ _ ⟨yB, hfr, rfl, b20, rfl, b21, rfl, rfl, t5, rfl, u3, rfl, b83, rfl, rfl, rfl, rfl, rfl, rfl⟩
    ·refine EL_y (.int .i64 (m7.2.2)) (P_move rfl) rfl rfl nB rfl ?_
     refine EL_y (.bool ((m7.2.2 != (0 : Int)))) (P_int rfl rfl rfl) rfl rfl nB rfl ?_
     refine EL_p (.bool ((m7.2.2 != (0 : Int)))) (P_pick (b := (y74.2 != (0 : Int))) rfl (pick_f nB rfl)) rfl ?_
     refine EL_mw (.bool ((m7.2.2 != (0 : Int)))) rfl rfl ?_
     rcases csome h with ⟨l8, h⟩ | ⟨l8, h⟩
     ·refine EL_s rfl rfl l8 rfl rfl ?_
      iterate 5 refine EL_s rfl rfl l8 rfl rfl ?_
      refine EL_p (.bool true) (P_pick (b := (m7.2.2 != (0 : Int))) rfl (pick_t l8 rfl)) rfl ?_
      refine EL_dead 20 rfl ?_
      refine EL_nil ?_
      obtain rfl := sinj h
      exact hQ _ _ ⟨yB, hfr, rfl, b20, rfl, b21, rfl, rfl, t5, rfl, u3, rfl, b83, rfl, rfl, rfl, rfl, rfl, rfl⟩
     ·refine EL_y (fPtr lL 0) (P_fieldAddr at_52_0 rfl (OB.ptr b97)) rfl rfl l8 rfl ?_
      refine EL_do (.yes2 rfl rfl l8) rfl (D_loadF (g := yB) part_TieHarness_0.1 Tryd.isAgg3 Tryd.sizeOf3 rfl b97 fun sW xQ => ?_)
      obtain rfl := RV_int.1 xQ
      refine EL_y (fPtr v8 0) (P_fieldAddr at_52_0 rfl (OB.ptr b20)) rfl rfl l8 rfl ?_
      refine EL_do (.yes2 rfl rfl l8) rfl (D_loadF (g := yB) part_TieHarness_0.1 Tryd.isAgg3 Tryd.sizeOf3 rfl b20 fun tW yQ => ?_)
      obtain rfl := RV_int.1 yQ
      refine EL_y (.int .i64 ((w64 ((y4).Hooks + (1 : Int))))) (P_int rfl rfl rfl) rfl rfl l8 rfl ?_
      refine EL_y (.bool ((decide ((m7.1).Hooks > (w64 ((y4).Hooks + (1 : Int))))))) (P_int rfl rfl rfl) rfl rfl l8 rfl ?_
      refine EL_p (.bool ((decide ((m7.1).Hooks > (w64 ((y4).Hooks + (1 : Int))))))) (P_pick (b := (m7.2.2 != (0 : Int))) rfl (pick_f l8 rfl)) rfl ?_
      refine EL_p (.bool ((decide ((m7.1).Hooks > (w64 ((y4).Hooks + (1 : Int))))))) (P_move rfl) rfl ?_
      rcases csome h with ⟨r8, h⟩ | ⟨r8, h⟩
      ·refine EL_s rfl rfl r8 rfl rfl ?_
       refine EL_s rfl rfl r8 rfl rfl ?_
       refine EL_s rfl rfl r8 rfl rfl ?_
       refine EL_p (.bool true) (P_pick (b := (decide ((m7.1).Hooks > (w64 ((y4).Hooks + (1 : Int)))))) rfl (pick_t r8 rfl)) rfl ?_
       refine EL_dead 15 rfl ?_
       refine EL_nil ?_
       obtain rfl := sinj h
       exact hQ _ _ ⟨yB, hfr, rfl, b20, rfl, b21, rfl, rfl, t5, rfl, u3, rfl, b83, rfl, rfl, rfl, rfl, rfl, rfl⟩
      ·refine EL_y (fPtr lL 0) (P_fieldAddr at_52_0 rfl (OB.ptr b97)) rfl rfl r8 rfl ?_
       refine EL_do (.yes2 rfl rfl r8) rfl (D_loadF (g := yB) part_TieHarness_0.1 Tryd.isAgg3 Tryd.sizeOf3 rfl b97 fun uW zQ => ?_)
       obtain rfl := RV_int.1 zQ
       refine EL_y (.bool ((decide ((m7.1).Hooks < (1 : Int))))) (P_int rfl rfl rfl) rfl rfl r8 rfl ?_
       refine EL_p (.bool ((decide ((m7.1).Hooks < (1 : Int))))) (P_pick (b := (decide ((m7.1).Hooks > (w64 ((y4).Hooks + (1 : Int)))))) rfl (pick_f r8 rfl)) rfl ?_
       refine EL_mw (.bool ((decide ((m7.1).Hooks < (1 : Int))))) rfl rfl ?_
       rcases csome h with ⟨m8, h⟩ | ⟨m8, h⟩
       ·refine EL_s rfl rfl m8 rfl rfl ?_
        iterate 4 refine EL_s rfl rfl m8 rfl rfl ?_
        refine EL_p (.bool true) (P_pick (b := (decide ((m7.1).Hooks < (1 : Int)))) rfl (pick_t m8 rfl)) rfl ?_
        refine EL_dead 8 rfl ?_
        refine EL_nil ?_
        obtain rfl := sinj h
        exact hQ _ _ ⟨yB, hfr, rfl, b20, rfl, b21, rfl, rfl, t5, rfl, u3, rfl, b83, rfl, rfl, rfl, rfl, rfl, rfl⟩
       ·refine EL_y (.int .i64 (y81.2)) (P_move rfl) rfl rfl m8 rfl ?_
        refine EL_y (.bool ((y81.2 == (0 : Int)))) (P_int rfl rfl rfl) rfl rfl m8 rfl ?_
        refine EL_y (.int .i64 (o0.2.2.2)) (P_move rfl) rfl rfl m8 rfl ?_
        refine EL_y (.bool ((o0.2.2.2 == (7 : Int)))) (P_int rfl rfl rfl) rfl rfl m8 rfl ?_
        refine EL_y (.bool ((!((y81.2 == (0 : Int)) == (o0.2.2.2 == (7 : Int)))))) (P_bool Tryd.underlying4 rfl rfl rfl) rfl rfl m8 rfl ?_
        refine EL_p (.bool ((!((y81.2 == (0 : Int)) == (o0.2.2.2 == (7 : Int)))))) (P_pick (b := (decide ((m7.1).Hooks < (1 : Int)))) rfl (pick_f m8 rfl)) rfl ?_
        refine EL_mw (.bool ((!((y81.2 == (0 : Int)) == (o0.2.2.2 == (7 : Int)))))) rfl rfl ?_
        rcases csome h with ⟨g8, h⟩ | ⟨g8, h⟩
        ·refine EL_s rfl rfl g8 rfl rfl ?_
         refine EL_s rfl rfl g8 rfl rfl ?_
         refine EL_s rfl rfl g8 rfl rfl ?_
         refine EL_skip (.off rfl rfl) rfl ?_
         refine EL_skip (.off rfl rfl) rfl ?_
         refine EL_s rfl rfl g8 rfl rfl ?_
         refine EL_p (.bool true) (P_pick (b := (!((y81.2 == (0 : Int)) == (o0.2.2.2 == (7 : Int))))) rfl (pick_t g8 rfl)) rfl ?_
         refine EL_nil ?_
         obtain rfl := sinj h
         exact hQ _ _ ⟨yB, hfr, rfl, b20, rfl, b21, rfl, rfl, t5, rfl, u3, rfl, b83, rfl, rfl, rfl, rfl, rfl, rfl⟩
        ·refine EL_y (.int .i64 (y81.2)) (P_move rfl) rfl rfl g8 rfl ?_
         refine EL_y (.bool ((y81.2 != (0 : Int)))) (P_int rfl rfl rfl) rfl rfl g8 rfl ?_
         refine EL_y (.bool ((y81.2 != (0 : Int)))) (P_move rfl) rfl rfl g8 rfl ?_
         rcases csome h with ⟨oB, h⟩ | ⟨oB, h⟩
         ·refine EL_y (.int .i64 (y81.2)) (P_move rfl) rfl rfl oB rfl ?_
          refine EL_y (.bool ((y81.2 != (9 : Int)))) (P_int rfl rfl rfl) rfl rfl oB rfl ?_
          refine EL_y (.bool ((y81.2 != (9 : Int)))) (P_pick (b := (y81.2 != (0 : Int))) rfl (pick_t oB rfl)) rfl rfl g8 rfl ?_
          refine EL_p (.bool ((y81.2 != (9 : Int)))) (P_pick (b := (!((y81.2 == (0 : Int)) == (o0.2.2.2 == (7 : Int))))) rfl (pick_f g8 rfl)) rfl ?_
          refine EL_nil ?_
          obtain rfl := sinj h
          exact hQ _ _ ⟨yB, hfr, rfl, b20, rfl, b21, rfl, rfl, t5, rfl, u3, rfl, b83, rfl, rfl, rfl, rfl, rfl, rfl⟩
         ·refine EL_s rfl rfl oB rfl rfl ?_
          refine EL_s rfl rfl oB rfl rfl ?_
          refine EL_y (.bool false) (P_pick (b := (y81.2 != (0 : Int))) rfl (pick_f oB rfl)) rfl rfl g8 rfl ?_
          refine EL_p (.bool false) (P_pick (b := (!((y81.2 == (0 : Int)) == (o0.2.2.2 == (7 : Int))))) rfl (pick_f g8 rfl)) rfl ?_
          refine EL_nil ?_
          obtain rfl := sinj h
          exact hQ _ _ ⟨yB, hfr, rfl, b20, rfl, b21, rfl, rfl, t5, rfl, u3, rfl, b83, rfl, rfl, rfl, rfl, rfl, rfl⟩
  ·clear hx
   obtain ⟨aR, hfr, mL, nL, oL, pL, qL, rL, tL, uL, vL, mI, nI, pI, qI, sI, tI, uI, aE⟩ := hR
   rcases csome h with ⟨iH, h⟩ | ⟨iH, h⟩
   ·refine E_cond_true (Eq.trans (show ev _ _ = .bool (z9) from aE) (congrArg Value.bool iH)) ?_
    refine E_seq (E_region (EL_at (.bool false) rfl rfl ?_))
    refine EL_nil (thn_n (E_ret (thn_r ?_)))
    obtain rfl := sinj h
    exact end1 rfl rfl (show _ = .bool false from rfl) ⟨_, hfr, rfl⟩
   ·refine E_cond_false (Eq.trans (show ev _ _ = .bool (z9) from aE) (congrArg Value.bool iH)) ?_
    exact E_skip (thn_n (nO () _ _ ⟨aR, hfr, mL, nL, oL, pL, qL, rL, tL, uL, vL, mI, nI, pI, qI, sI, tI, uI⟩ h))
 ·rintro _ dV vW ⟨bR, hfr, xL, bE, yL, iE, zL, aM, lE, bM, mE, vI, uD, yI, zI, eJ, gJ, iJ⟩ h
  refine E_seq (E_region (EL_do .plain rfl (D_makeMap (g := bR) (Value.int .i64) Bool 8117 fun cR xW iA hs m157 => ?_)))
  have hfr := hfr.stp hs
  have bE := bE.stp hs rfl
  have iE := iE.stp hs rfl
  have lE := lE.stp hs
  have mE := mE.stp hs
  have uD := uD.stp hs rfl
  refine EL_at iA rfl rfl ?_
  refine EL_nil (thn_n ?_)
  obtain ⟨x6, hx, h⟩ := bsome h
  refine E_join (fun e w => ∃ (g : Gh) , Fr gI wI g w ∧ e 3 = v8 ∧ OB 2003 g w 52 (y4 : TieHarness) v8 ∧ e 4 = v9 ∧ OB 2004 g w 55 (y7 : Design) v9 ∧ e 5 = .int .i64 ((((y4).Warps).length : Int)) ∧ e 7 = l5 ∧ RV g.m w ((x5.1 : List Str) : List Str) l5 ∧ e 9 = i6 ∧ RV g.m w (y74.1 : List Int) i6 ∧ e 11 = bA ∧ OB 2011 g w 55 (y81.1 : Design) bA ∧ e 12 = .int .i64 (y81.2) ∧ e 13 = .int .i64 (o0.1) ∧ e 14 = .int .i64 (o0.2.1) ∧ e 15 = .int .i64 (o0.2.2.1) ∧ e 16 = .int .i64 (o0.2.2.2) ∧ e 20 = iA ∧ MP (Value.int .i64) 8117 g w (x6 : List (Int × Bool)) iA) (fun Q' hQ => ?_) (fun eV yW hR => ?_)
  ·replace h := hx
   clear hx
   refine E_seq (E_region (EL_at (.int .i64 (0)) rfl rfl ?_))
   refine EL_nil (thn_n (E_block ?_))
   refine E_lp h (fun (s : (List (Int × Bool)) × Int) e w => ∃ (g : Gh) , Fr gI wI g w ∧ e 3 = v8 ∧ OB 2003 g w 52 (y4 : TieHarness) v8 ∧ e 4 = v9 ∧ OB 2004 g w 55 (y7 : Design) v9 ∧ e 5 = .int .i64 ((((y4).Warps).length : Int)) ∧ e 7 = l5 ∧ RV g.m w ((x5.1 : List Str) : List Str) l5 ∧ e 9 = i6 ∧ RV g.m w (y74.1 : List Int) i6 ∧ e 11 = bA ∧ OB 2011 g w 55 (y81.1 : Design) bA ∧ e 12 = .int .i64 (y81.2) ∧ e 13 = .int .i64 (o0.1) ∧ e 14 = .int .i64 (o0.2.1) ∧ e 15 = .int .i64 (o0.2.2.1) ∧ e 16 = .int .i64 (o0.2.2.2) ∧ e 20 = iA ∧ MP (Value.int .i64) 8117 g w (s.1 : List (Int × Bool)) iA ∧ e 21 = .int .i64 (s.2)) ⟨cR, hfr, xL, bE, yL, iE, zL, aM, lE, bM, mE, vI, uD, yI, zI, eJ, gJ, iJ, rfl, m157, rfl⟩ (fun X173 sK oO => ?_)
   rintro ⟨mC, i7⟩ gV zW ⟨cM, hfr, pH, qH, sH, tH, uH, xH, yH, oE, rE, uF, vF, xF, yF, zF, aG, bG, cG, eG, gG⟩ h
   refine E_joinC h (fun (s : Unit) e w => ∃ (g : Gh) , Fr gI wI g w ∧ e 3 = v8 ∧ OB 2003 g w 52 (y4 : TieHarness) v8 ∧ e 4 = v9 ∧ OB 2004 g w 55 (y7 : Design) v9 ∧ e 5 = .int .i64 ((((y4).Warps).length : Int)) ∧ e 7 = l5 ∧ RV g.m w ((x5.1 : List Str) : List Str) l5 ∧ e 9 = i6 ∧ RV g.m w (y74.1 : List Int) i6 ∧ e 11 = bA ∧ OB 2011 g w 55 (y81.1 : Design) bA ∧ e 12 = .int .i64 (y81.2) ∧ e 13 = .int .i64 (o0.1) ∧ e 14 = .int .i64 (o0.2.1) ∧ e 15 = .int .i64 (o0.2.2.1) ∧ e 16 = .int .i64 (o0.2.2.2) ∧ e 20 = iA ∧ MP (Value.int .i64) 8117 g w (mC : List (Int × Bool)) iA ∧ e 21 = .int .i64 (i7)) (fun X176 uK pO h => ?_) ?_
   ·refine E_seq (E_region (EL_mv gG rfl ?_))
    refine EL_mv oE rfl ?_
    refine EL_p (.int .i64 ((y74.1).length : Int)) (P_len Tryd.underlying34 rfl rE) rfl ?_
    refine EL_in (.bool ((decide (i7 < ((y74.1).length : Int))))) rfl rfl rfl rfl ?_
    refine EL_nil (thn_n ?_)
    rcases csome h with ⟨jH, h⟩ | ⟨jH, h⟩
    ·refine E_ct jH rfl ?_
     exact E_skip (thn_n (pO () _ _ ⟨cM, hfr, pH, qH, sH, tH, uH, xH, yH, oE, rE, uF, vF, xF, yF, zF, aG, bG, cG, eG, gG⟩ h))
    ·refine E_cf jH rfl ?_
     refine E_exit ?_
     refine thn_e ?_
     refine thn_e ?_
     refine blk_hit ?_
     obtain rfl := sinj h
     exact hQ _ _ ⟨cM, hfr, pH, qH, sH, tH, uH, xH, yH, oE, rE, uF, vF, xF, yF, zF, aG, bG, cG, eG⟩
   ·rintro _ iV aX ⟨dM, hfr, eM, uE, iM, vE, jM, kM, xE, zH, zB, jJ, vD, kJ, lJ, mJ, nJ, oJ, hG, pJ, iG⟩ h
    obtain ⟨qC, hx, h⟩ := bsome h
    refine E_join (fun e w => ∃ (g : Gh) , Fr gI wI g w ∧ e 3 = v8 ∧ OB 2003 g w 52 (y4 : TieHarness) v8 ∧ e 4 = v9 ∧ OB 2004 g w 55 (y7 : Design) v9 ∧ e 5 = .int .i64 ((((y4).Warps).length : Int)) ∧ e 7 = l5 ∧ RV g.m w ((x5.1 : List Str) : List Str) l5 ∧ e 9 = i6 ∧ RV g.m w (y74.1 : List Int) i6 ∧ e 11 = bA ∧ OB 2011 g w 55 (y81.1 : Design) bA ∧ e 12 = .int .i64 (y81.2) ∧ e 13 = .int .i64 (o0.1) ∧ e 14 = .int .i64 (o0.2.1) ∧ e 15 = .int .i64 (o0.2.2.1) ∧ e 16 = .int .i64 (o0.2.2.2) ∧ e 20 = iA ∧ MP (Value.int .i64) 8117 g w (qC : List (Int × Bool)) iA ∧ e 21 = .int .i64 (i7)) (fun Q' hQ => ?_) (fun jV bX hR => ?_)
    ·replace h := hx
     clear hx
     refine E_block ?_
     refine E_region (EL_mv hG rfl ?_)
     refine EL_mv zH rfl ?_
     refine EL_mv iG rfl ?_
     obtain ⟨tK, lI, h⟩ := bsome h
     refine EL_p (ePtr i6 i7 1) (P_indexAddr (α := Int) Tryd.underlying34 Tryd.sizeOf3 rfl zB rfl lI) rfl ?_
     have dR := PT_idx zB lI
     refine EL_do .plain rfl (D_load (g := dM) Tryd.isAgg3 Tryd.sizeOf3 rfl dR fun cX eR => ?_)
     obtain rfl := RV_int.1 eR
     refine EL_do .plain rfl (D_mapUpdate (g := dM) Tryd.underlying86 key_3 rfl pJ rfl rfl (RV_bool.2 rfl) fun gR dX hs m186 => ?_)
     have hfr := hfr.stp hs
     have uE := uE.stp hs rfl
     have vE := vE.stp hs rfl
     have xE := xE.stp hs
     have zB := zB.stp hs
     have vD := vD.stp hs rfl
     refine EL_nil (blk_n ?_)
     obtain rfl := sinj h
     exact hQ _ _ ⟨gR, hfr, eM, uE, iM, vE, jM, kM, xE, zH, zB, jJ, vD, kJ, lJ, mJ, nJ, oJ, hG, m186, iG⟩
    ·clear hx
     obtain ⟨iR, hfr, mM, nM, oM, pM, qM, rM, sM, tM, uM, qJ, rJ, sJ, vJ, xJ, yJ, zJ, aK, bK, cK⟩ := hR
     refine E_region (EL_mv cK rfl ?_)
     refine EL_in (.int .i64 ((w64 (i7 + (1 : Int))))) rfl rfl rfl rfl ?_
     refine EL_at (.int .i64 ((w64 (i7 + (1 : Int))))) rfl rfl ?_
     exact EL_nil (thn_n (oO (qC, (w64 (i7 + (1 : Int)))) _ _ ⟨iR, hfr, mM, nM, oM, pM, qM, rM, sM, tM, uM, qJ, rJ, sJ, vJ, xJ, yJ, zJ, aK, bK, rfl⟩ h))
  ·clear hx
   obtain ⟨n8, hfr, vM, xM, bN, cN, dN, aI, bI, eN, gN, dK, lK, mK, jG, xD, yD, nK, kG, lG⟩ := hR
   refine E_joinC h (fun (s : Unit) e w => ∃ (g : Gh) , Fr gI wI g w ∧ e 3 = v8 ∧ OB 2003 g w 52 (y4 : TieHarness) v8 ∧ e 4 = v9 ∧ OB 2004 g w 55 (y7 : Design) v9 ∧ e 7 = l5 ∧ RV g.m w ((x5.1 : List Str) : List Str) l5 ∧ e 9 = i6 ∧ RV g.m w (y74.1 : List Int) i6 ∧ e 11 = bA ∧ OB 2011 g w 55 (y81.1 : Design) bA) (fun X231 yK qO h => ?_) ?_
   ·refine E_seq (E_region (EL_mv mK rfl ?_))
    refine EL_in (.bool ((y81.2 != (0 : Int)))) rfl rfl rfl rfl ?_
    refine EL_nil (thn_n ?_)
    rcases csome h with ⟨kH, h⟩ | ⟨kH, h⟩
    ·refine E_ct kH rfl ?_
     obtain ⟨vC, hx, h⟩ := bsome h
     refine E_join (fun e w => ∃ (g : Gh) , Fr gI wI g w ∧ e 2 = .bool (vC)) (fun Q' hQ => ?_) (fun kV eX hR => ?_)
     ·replace h := hx
      clear hx
      refine E_region (EL_mv nK rfl ?_)
      refine EL_in (.bool ((o0.2.2.2 == (0 : Int)))) rfl rfl rfl rfl ?_
      refine EL_mw (.bool ((o0.2.2.2 == (0 : Int)))) rfl rfl ?_
      rcases csome h with ⟨tB, h⟩ | ⟨tB, h⟩
      ·refine EL_y (.int .i64 (o0.1)) (P_move jG) rfl rfl tB rfl ?_
       refine EL_y (.bool ((decide (o0.1 ≥ (0 : Int))))) (P_int rfl rfl rfl) rfl rfl tB rfl ?_
       refine EL_p (.bool ((decide (o0.1 ≥ (0 : Int))))) (P_pick (b := (o0.2.2.2 == (0 : Int))) rfl (pick_t tB rfl)) rfl ?_
       refine EL_mw (.bool ((decide (o0.1 ≥ (0 : Int))))) rfl rfl ?_
       rcases csome h with ⟨x8, h⟩ | ⟨x8, h⟩
       ·refine EL_y (.int .i64 (o0.1)) (P_move jG) rfl rfl x8 rfl ?_
        refine EL_y l5 (P_move aI) rfl rfl x8 rfl ?_
        refine EL_y (.int .i64 (((x5.1 : List Str)).length : Int)) (P_len Tryd.underlying57 rfl bI) rfl rfl x8 rfl ?_
        refine EL_y (.bool ((decide (o0.1 < (((x5.1 : List Str)).length : Int))))) (P_int rfl rfl rfl) rfl rfl x8 rfl ?_
        refine EL_p (.bool ((decide (o0.1 < (((x5.1 : List Str)).length : Int))))) (P_pick (b := (decide (o0.1 ≥ (0 : Int)))) rfl (pick_t x8 rfl)) rfl ?_
        refine EL_p (.bool ((decide (o0.1 < (((x5.1 : List Str)).length : Int))))) (P_move rfl) rfl ?_
        rcases csome h with ⟨a9, h⟩ | ⟨a9, h⟩
        ·refine EL_y (.int .i64 (o0.2.1)) (P_move xD) rfl rfl a9 rfl ?_
         refine EL_y (.int .i64 (o0.2.2.1)) (P_move yD) rfl rfl a9 rfl ?_
         refine EL_y (.bool ((decide (o0.2.1 > o0.2.2.1)))) (P_int rfl rfl rfl) rfl rfl a9 rfl ?_
         refine EL_p (.bool ((decide (o0.2.1 > o0.2.2.1)))) (P_pick (b := (decide (o0.1 < (((x5.1 : List Str)).length : Int)))) rfl (pick_t a9 rfl)) rfl ?_
         refine EL_mw (.bool ((decide (o0.2.1 > o0.2.2.1)))) rfl rfl ?_
         rcases csome h with ⟨vB, h⟩ | ⟨vB, h⟩
         ·refine EL_y (.int .i64 (o0.2.2.1)) (P_move yD) rfl rfl vB rfl ?_
          refine EL_y (.bool ((decide (o0.2.2.1 ≥ (0 : Int))))) (P_int rfl rfl rfl) rfl rfl vB rfl ?_
          refine EL_p (.bool ((decide (o0.2.2.1 ≥ (0 : Int))))) (P_pick (b := (decide (o0.2.1 > o0.2.2.1))) rfl (pick_t vB rfl)) rfl ?_
          refine EL_mw (.bool ((decide (o0.2.2.1 ≥ (0 : Int))))) rfl rfl ?_
          rcases csome h with ⟨d9, h⟩ | ⟨d9, h⟩
          ·refine EL_y (.int .i64 (o0.2.1)) (P_move xD) rfl rfl d9 rfl ?_
           refine EL_y (.int .i64 ((((y4).Warps).length : Int))) (P_move dN) rfl rfl d9 rfl ?_
           refine EL_y (.bool ((decide (o0.2.1 < (((y4).Warps).length : Int))))) (P_int rfl rfl rfl) rfl rfl d9 rfl ?_
           refine EL_p (.bool ((decide (o0.2.1 < (((y4).Warps).length : Int))))) (P_pick (b := (decide (o0.2.2.1 ≥ (0 : Int)))) rfl (pick_t d9 rfl)) rfl ?_
           refine EL_p (.bool ((decide (o0.2.1 < (((y4).Warps).length : Int))))) (P_move rfl) rfl ?_
           rcases csome h with ⟨k8, h⟩ | ⟨k8, h⟩
           ·refine EL_y iA (P_move kG) rfl rfl k8 rfl ?_
            refine EL_y (.int .i64 (o0.2.1)) (P_move xD) rfl rfl k8 rfl ?_
            refine EL_do (.yes2 rfl rfl k8) rfl (D_lookup (g := n8) (z0 := (false : Bool)) Tryd.underlying86 key_3 Tryd.zeroValue4 (fun m w => ⟨_, rep_bool, rfl⟩) rfl lG rfl fun gX jR => ?_)
            obtain rfl := RV_bool.1 jR
            refine EL_y (.bool (((mget x6 (o0.2.1)).getD (false : Bool)))) (P_move rfl) rfl rfl k8 rfl ?_
            rcases csome h with ⟨k9, h⟩ | ⟨k9, h⟩
            ·refine EL_s rfl rfl k9 rfl rfl ?_
             refine EL_s rfl rfl k9 rfl rfl ?_
             refine EL_s rfl rfl k9 rfl rfl ?_
             refine EL_y (.bool true) (P_pick (b := ((mget x6 (o0.2.1)).getD (false : Bool))) rfl (pick_t k9 rfl)) rfl rfl k8 rfl ?_
             refine EL_p (.bool true) (P_pick (b := (decide (o0.2.1 < (((y4).Warps).length : Int)))) rfl (pick_t k8 rfl)) rfl ?_
             refine EL_mw (.bool true) rfl rfl ?_
             obtain ⟨sD, rO, h⟩ := bsome h
             refine EL_do (.yes2 rfl rfl rfl) rfl (D_call (g := n8) (vs := []) en25 .nil (wk25  rO) fun iN lV iX hs hr => ?_)
             have hfr := hfr.ext hs
             subst hr
             refine EL_p (.bool (sD)) (P_pick (b := true) rfl (pick_t rfl rfl)) rfl ?_
             refine EL_mw (.bool (sD)) rfl rfl ?_
             rcases csome h with ⟨bD, h⟩ | ⟨bD, h⟩
             ·obtain ⟨yG, sO, h⟩ := bsome h
              refine EL_do (.yes2 rfl rfl bD) rfl (D_call (g := iN) (vs := []) en32 .nil (wk32  sO) fun lR mV jX hs hr => ?_)
              have hfr := hfr.ext hs
              subst hr
              refine EL_p (.bool (yG)) (P_pick (b := sD) rfl (pick_t bD rfl)) rfl ?_
              refine EL_at (.bool (yG)) rfl rfl ?_
              refine EL_nil ?_
              obtain rfl := sinj h
              exact hQ _ _ ⟨lR, hfr, rfl⟩
             ·refine EL_s rfl rfl bD rfl rfl ?_
              refine EL_p (.bool false) (P_pick (b := sD) rfl (pick_f bD rfl)) rfl ?_
              refine EL_at (.bool false) rfl rfl ?_
              refine EL_nil ?_
              obtain rfl := sinj h
              exact hQ _ _ ⟨iN, hfr, rfl⟩
            ·refine EL_y iA (P_move kG) rfl rfl k9 rfl ?_
             refine EL_y (.int .i64 (o0.2.2.1)) (P_move yD) rfl rfl k9 rfl ?_
             refine EL_do (.yes2 rfl rfl k9) rfl (D_lookup (g := n8) (z0 := (false : Bool)) Tryd.underlying86 key_3 Tryd.zeroValue4 (fun m w => ⟨_, rep_bool, rfl⟩) rfl lG rfl fun kX mR => ?_)
             obtain rfl := RV_bool.1 mR
             refine EL_y (.bool (((mget x6 (o0.2.2.1)).getD (false : Bool)))) (P_pick (b := ((mget x6 (o0.2.1)).getD (false : Bool))) rfl (pick_f k9 rfl)) rfl rfl k8 rfl ?_
             refine EL_p (.bool (((mget x6 (o0.2.2.1)).getD (false : Bool)))) (P_pick (b := (decide (o0.2.1 < (((y4).Warps).length : Int)))) rfl (pick_t k8 rfl)) rfl ?_
             refine EL_mw (.bool (((mget x6 (o0.2.2.1)).getD (false : Bool)))) rfl rfl ?_
             rcases csome h with ⟨cD, h⟩ | ⟨cD, h⟩
             ·obtain ⟨tD, tO, h⟩ := bsome h
              refine EL_do (.yes2 rfl rfl cD) rfl (D_call (g := n8) (vs := []) en25 .nil (wk25  tO) fun jN nV lX hs hr => ?_)
              have hfr := hfr.ext hs
              subst hr
              refine EL_p (.bool (tD)) (P_pick (b := ((mget x6 (o0.2.2.1)).getD (false : Bool))) rfl (pick_t cD rfl)) rfl ?_
              refine EL_mw (.bool (tD)) rfl rfl ?_
              rcases csome h with ⟨eD, h⟩ | ⟨eD, h⟩
              ·obtain ⟨zG, uO, h⟩ := bsome h
               refine EL_do (.yes2 rfl rfl eD) rfl (D_call (g := jN) (vs := []) en32 .nil (wk32  uO) fun nR oV mX hs hr => ?_)
               have hfr := hfr.ext hs
               subst hr
               refine EL_p (.bool (zG)) (P_pick (b := tD) rfl (pick_t eD rfl)) rfl ?_
               refine EL_at (.bool (zG)) rfl rfl ?_
               refine EL_nil ?_
               obtain rfl := sinj h
               exact hQ _ _ ⟨nR, hfr, rfl⟩
              ·refine EL_s rfl rfl eD rfl rfl ?_
               refine EL_p (.bool false) (P_pick (b := tD) rfl (pick_f eD rfl)) rfl ?_
               refine EL_at (.bool false) rfl rfl ?_
               refine EL_nil ?_
               obtain rfl := sinj h
               exact hQ _ _ ⟨jN, hfr, rfl⟩
             ·refine EL_s rfl rfl cD rfl rfl ?_
              refine EL_p (.bool false) (P_pick (b := ((mget x6 (o0.2.2.1)).getD (false : Bool))) rfl (pick_f cD rfl)) rfl ?_
              refine EL_dead 3 rfl ?_
              refine EL_at (.bool false) rfl rfl ?_
              refine EL_nil ?_
              obtain rfl := sinj h
              exact hQ _ _ ⟨n8, hfr, rfl⟩
           ·refine EL_s rfl rfl k8 rfl rfl ?_
            iterate 3 refine EL_s rfl rfl k8 rfl rfl ?_
            refine EL_dead 3 rfl ?_
            refine EL_s rfl rfl k8 rfl rfl ?_
            refine EL_p (.bool false) (P_pick (b := (decide (o0.2.1 < (((y4).Warps).length : Int)))) rfl (pick_f k8 rfl)) rfl ?_
            refine EL_dead 6 rfl ?_
            refine EL_at (.bool false) rfl rfl ?_
            refine EL_nil ?_
            obtain rfl := sinj h
            exact hQ _ _ ⟨n8, hfr, rfl⟩
          ·refine EL_s rfl rfl d9 rfl rfl ?_
           refine EL_s rfl rfl d9 rfl rfl ?_
           refine EL_s rfl rfl d9 rfl rfl ?_
           refine EL_p (.bool false) (P_pick (b := (decide (o0.2.2.1 ≥ (0 : Int)))) rfl (pick_f d9 rfl)) rfl ?_
           refine EL_dead 16 rfl ?_
           refine EL_at (.bool false) rfl rfl ?_
           refine EL_nil ?_
           obtain rfl := sinj h
           exact hQ _ _ ⟨n8, hfr, rfl⟩
         ·refine EL_s rfl rfl vB rfl rfl ?_
          refine EL_s rfl rfl vB rfl rfl ?_
          refine EL_p (.bool false) (P_pick (b := (decide (o0.2.1 > o0.2.2.1))) rfl (pick_f vB rfl)) rfl ?_
          refine EL_dead 21 rfl ?_
          refine EL_at (.bool false) rfl rfl ?_
          refine EL_nil ?_
          obtain rfl := sinj h
          exact hQ _ _ ⟨n8, hfr, rfl⟩
        ·refine EL_s rfl rfl a9 rfl rfl ?_
         refine EL_s rfl rfl a9 rfl rfl ?_
         refine EL_s rfl rfl a9 rfl rfl ?_
         refine EL_p (.bool false) (P_pick (b := (decide (o0.1 < (((x5.1 : List Str)).length : Int)))) rfl (pick_f a9 rfl)) rfl ?_
         refine EL_dead 25 rfl ?_
         refine EL_at (.bool false) rfl rfl ?_
         refine EL_nil ?_
         obtain rfl := sinj h
         exact hQ _ _ ⟨n8, hfr, rfl⟩
       ·refine EL_s rfl rfl x8 rfl rfl ?_
        iterate 3 refine EL_s rfl rfl x8 rfl rfl ?_
        refine EL_p (.bool false) (P_pick (b := (decide (o0.1 ≥ (0 : Int)))) rfl (pick_f x8 rfl)) rfl ?_
        refine EL_dead 30 rfl ?_
        refine EL_at (.bool false) rfl rfl ?_
        refine EL_nil ?_
        obtain rfl := sinj h
        exact hQ _ _ ⟨n8, hfr, rfl⟩
      ·refine EL_s rfl rfl tB rfl rfl ?_
       refine EL_s rfl rfl tB rfl rfl ?_
       refine EL_p (.bool false) (P_pick (b := (o0.2.2.2 == (0 : Int))) rfl (pick_f tB rfl)) rfl ?_
       refine EL_dead 36 rfl ?_
       refine EL_at (.bool false) rfl rfl ?_
       refine EL_nil ?_
       obtain rfl := sinj h
       exact hQ _ _ ⟨n8, hfr, rfl⟩
     ·clear hx
      obtain ⟨nX, hfr, kN⟩ := hR
      refine E_ret (thn_r ?_)
      obtain rfl := sinj h
      exact end1 rfl rfl (show _ = .bool (vC) from kN) ⟨_, hfr, rfl⟩
    ·refine E_cf kH rfl ?_
     exact E_skip (thn_n (qO () _ _ ⟨n8, hfr, vM, xM, bN, cN, aI, bI, eN, gN, dK, lK⟩ h))
   ·rintro _ pV oX ⟨oR, hfr, yE, rA, dI, dB, zE, yA, iI, iB, oK, pK⟩ h
    refine E_seq (L_loadO0 (x := .tmp 3) Tryd.isAgg52 Tryd.sizeOf52 rA fun lN pR vO => ?_)
    obtain ⟨y277, xO, h⟩ := bsome h
    refine L_loadO0 (x := .tmp 11) Tryd.isAgg55 Tryd.sizeOf55 pK fun mN qR yO => ?_
    obtain ⟨lD, zO, h⟩ := bsome h
    obtain ⟨y6, aP, h⟩ := bsome h
    refine E_drawL (g := oR) (n := 10) [(1, (fun v g w => RV g.m w y277 v)), (3, (fun v g w => RV g.m w lD v)), (4, (fun v g w => ∃ y0 y1 : Value, v = .tuple #[y0, y1] ∧ RV g.m w (y6.1 : List Str) y0 ∧ y1 = .int .i64 (y6.2)))] [0, 1, 2, 3, 4, 5, 6, 7, 8, 9] rfl mixed (by kernel_rfl) (⟨fun _ => up_rv, fun _ => up_rv, fun _ => (up_ex fun _ => (up_ex fun _ => (up_and (up_eq _) (up_and up_rv (up_eq _))))), trivial⟩) ?_
    refine L_ld (c := lN) rfl rfl .plain (fun _ _ h => ⟨h.ch, fun b hb _ => h.below.block b hb⟩) vO yE ?_
    refine L_do (φ := fun v g w => RV g.m w y277 v) rfl rfl .plain (fun g w hd => D_call (g := g) (vs := [lN]) en16 (.cons rfl .nil) (wk16 (pR.ext hd.1) xO) fun g' w' v hs hr => ⟨g', hs, hr⟩) (fun jI hv => ?_)
    obtain ⟨_, _, _, rq276⟩ := hv
    refine L_ld (c := mN) rfl rfl .plain (fun _ _ h => ⟨h.ch, fun b hb _ => h.below.block b hb⟩) yO oK ?_
    refine L_do (φ := fun v g w => RV g.m w lD v) rfl rfl .plain (fun g w hd => D_call (g := g) (vs := [mN]) en17 (.cons rfl .nil) (wk17 (qR.ext hd.1) zO) fun g' w' v hs hr => ⟨g', hs, hr⟩) (fun kI hv => ?_)
    obtain ⟨_, _, _, rq279⟩ := hv
    refine L_do (φ := fun v g w => ∃ y0 y1 : Value, v = .tuple #[y0, y1] ∧ RV g.m w (y6.1 : List Str) y0 ∧ y1 = .int .i64 (y6.2)) rfl rfl .plain (fun g w hd => D_call (g := g) (vs := [jI, kI]) en15 (.cons rfl (.cons rfl .nil)) (wk15 (word (A := fun g w => RV g.m w y277 jI) 1 rfl rfl (deps_of hd)) (word (A := fun g w => RV g.m w lD kI) 3 rfl rfl (deps_of hd)) aP) fun g' w' v hs hr => ⟨g', hs, hr⟩) (fun pX hv => ?_)
    obtain ⟨_, _, _, aB, _, rfl, dS, rfl⟩ := hv
    refine L_p (.tuple #[aB, .int .i64 (y6.2)]) rfl rfl (P_move rfl) ?_
    refine L_p aB rfl rfl (P_extract rfl rfl) ?_
    refine L_p (.int .i64 (y6.2)) rfl rfl (P_extract rfl rfl) ?_
    refine L_p aB rfl rfl (P_assign rfl) ?_
    refine L_p (.int .i64 (y6.2)) rfl rfl (P_assign rfl) ?_
    refine L_nil fun nN qX hall => ?_
    have hs := hall.1
    have hfr := hfr.ext hs
    have rA := rA.ext hs
    have dB := dB.ext hs
    have yA := yA.ext hs
    have iB := iB.ext hs
    have rX := (word_all (A := fun g w => RV g.m w y277 jI) 1 rfl hall)
    have sX := (word_all (A := fun g w => RV g.m w lD kI) 3 rfl hall)
    have tX := (tup2_0 (word_all (A := fun g w => ∃ y0 y1 : Value, Value.tuple #[aB, .int .i64 (y6.2)] = .tuple #[y0, y1] ∧ RV g.m w (y6.1 : List Str) y0 ∧ y1 = .int .i64 (y6.2)) 4 rfl hall))
    have rR := (tup2_0 (word_all (A := fun g w => ∃ y0 y1 : Value, Value.tuple #[aB, .int .i64 (y6.2)] = .tuple #[y0, y1] ∧ RV g.m w (y6.1 : List Str) y0 ∧ y1 = .int .i64 (y6.2)) 4 rfl hall))
    clear hs hall
    refine EL_nil (thn_n (E_joinC h (fun (s : Unit) e w => ∃ (g : Gh) , Fr gI wI g w ∧ e 3 = v8 ∧ OB 2003 g w 52 (y4 : TieHarness) v8 ∧ e 4 = v9 ∧ OB 2004 g w 55 (y7 : Design) v9 ∧ e 7 = l5 ∧ RV g.m w ((x5.1 : List Str) : List Str) l5 ∧ e 9 = i6 ∧ RV g.m w (y74.1 : List Int) i6) (fun X307 xK bP h => ?_) ?_))
    ·obtain ⟨y9, hx, h⟩ := bsome h
     refine E_join (fun e w => ∃ (g : Gh) , Fr gI wI g w ∧ e 3 = v8 ∧ OB 2003 g w 52 (y4 : TieHarness) v8 ∧ e 4 = v9 ∧ OB 2004 g w 55 (y7 : Design) v9 ∧ e 7 = l5 ∧ RV g.m w ((x5.1 : List Str) : List Str) l5 ∧ e 9 = i6 ∧ RV g.m w (y74.1 : List Int) i6 ∧ e 188 = .bool (y9)) (fun Q' hQ => ?_) (fun qV uX hR => ?_)
     ·replace h := hx
      clear hx
      refine E_region (EL_mw (.int .i64 (y6.2)) rfl rfl ?_)
      refine EL_in (.bool ((y6.2 != (0 : Int)))) rfl rfl rfl rfl ?_
      refine EL_mw (.bool ((y6.2 != (0 : Int)))) rfl rfl ?_
      rcases csome h with ⟨l9, h⟩ | ⟨l9, h⟩
      ·refine EL_s rfl rfl l9 rfl rfl ?_
       iterate 3 refine EL_s rfl rfl l9 rfl rfl ?_
       refine EL_p (.bool true) (P_pick (b := (y6.2 != (0 : Int))) rfl (pick_t l9 rfl)) rfl ?_
       refine EL_nil ?_
       obtain rfl := sinj h
       exact hQ _ _ ⟨nN, hfr, yE, rA, dI, dB, zE, yA, iI, iB, rfl⟩
      ·refine EL_y aB (P_move rfl) rfl rfl l9 rfl ?_
       refine EL_y l5 (P_move zE) rfl rfl l9 rfl ?_
       obtain ⟨xG, cP, h⟩ := bsome h
       refine EL_do (.yes2 rfl rfl l9) rfl (D_call (g := nN) (vs := [aB, l5]) en23 (.cons rfl (.cons rfl .nil)) (wk23 rR yA cP) fun tR rV vX hs hr => ?_)
       have hfr := hfr.ext hs
       have rA := rA.ext hs
       have dB := dB.ext hs
       have yA := yA.ext hs
       have iB := iB.ext hs
       subst hr
       refine EL_y (.bool (!xG)) (P_not rfl) rfl rfl l9 rfl ?_
       refine EL_p (.bool (!xG)) (P_pick (b := (y6.2 != (0 : Int))) rfl (pick_f l9 rfl)) rfl ?_
       refine EL_nil ?_
       obtain rfl := sinj h
       exact hQ _ _ ⟨tR, hfr, yE, rA, dI, dB, zE, yA, iI, iB, rfl⟩
     ·clear hx
      obtain ⟨uR, hfr, oN, pN, qN, rN, sN, tN, uN, vN, cF⟩ := hR
      rcases csome h with ⟨lH, h⟩ | ⟨lH, h⟩
      ·refine E_cond_true (Eq.trans (show ev _ _ = .bool (y9) from cF) (congrArg Value.bool lH)) ?_
       refine E_seq (E_region (EL_at (.bool false) rfl rfl ?_))
       refine EL_nil (thn_n (E_ret (thn_r ?_)))
       obtain rfl := sinj h
       exact end1 rfl rfl (show _ = .bool false from rfl) ⟨_, hfr, rfl⟩
      ·refine E_cond_false (Eq.trans (show ev _ _ = .bool (y9) from cF) (congrArg Value.bool lH)) ?_
       exact E_skip (thn_n (bP () _ _ ⟨uR, hfr, oN, pN, qN, rN, sN, tN, uN, vN⟩ h))
    ·rintro _ sV xX ⟨mH, hfr, xN, yN, zN, aO, bO, dF, cO, dO⟩ h
     refine E_joinC h (fun (s : Unit) e w => ∃ (g : Gh) , Fr gI wI g w) (fun X341 vK dP h => ?_) ?_
     ·refine E_seq (E_region (EL_mv cO rfl ?_))
      refine EL_p (.int .i64 ((y74.1).length : Int)) (P_len Tryd.underlying34 rfl dO) rfl ?_
      refine EL_in (.bool ((((y74.1).length : Int) == (0 : Int)))) rfl rfl rfl rfl ?_
      refine EL_nil (thn_n ?_)
      rcases csome h with ⟨nH, h⟩ | ⟨nH, h⟩
      ·refine E_ct nH rfl ?_
       refine E_seq (E_region (EL_do .plain rfl (D_loadO (g := mH) Tryd.isAgg52 Tryd.sizeOf52 xN yN fun vR xR => ?_)))
       refine EL_do .plain rfl (D_loadO (g := mH) Tryd.isAgg55 Tryd.sizeOf55 zN aO fun yR zR => ?_)
       obtain ⟨u9, eP, h⟩ := bsome h
       refine EL_do .plain rfl (D_call (g := mH) (vs := [vR, yR]) en15 (.cons rfl (.cons rfl .nil)) (wk15 xR zR eP) fun eO tV yX hs hr => ?_)
       have hfr := hfr.ext hs
       have dF := dF.ext hs
       obtain ⟨cC, qU, rfl, gO, rfl⟩ := hr
       refine EL_mw (.tuple #[cC, .int .i64 (u9.2)]) rfl rfl ?_
       refine EL_p cC (P_extract rfl rfl) rfl ?_
       refine EL_p (.int .i64 (u9.2)) (P_extract rfl rfl) rfl ?_
       refine EL_at cC rfl rfl ?_
       refine EL_at (.int .i64 (u9.2)) rfl rfl ?_
       refine EL_nil (thn_n ?_)
       obtain ⟨uC, hx, h⟩ := bsome h
       refine E_join (fun e w => ∃ (g : Gh) , Fr gI wI g w ∧ e 2 = .bool (uC)) (fun Q' hQ => ?_) (fun uV zX hR => ?_)
       ·replace h := hx
        clear hx
        refine E_region (EL_mw (.int .i64 (u9.2)) rfl rfl ?_)
        refine EL_in (.bool ((u9.2 == (0 : Int)))) rfl rfl rfl rfl ?_
        refine EL_mw (.bool ((u9.2 == (0 : Int)))) rfl rfl ?_
        rcases csome h with ⟨n9, h⟩ | ⟨n9, h⟩
        ·refine EL_y l5 (P_move bO) rfl rfl n9 rfl ?_
         refine EL_y cC (P_move rfl) rfl rfl n9 rfl ?_
         obtain ⟨nD, gP, h⟩ := bsome h
         refine EL_do (.yes2 rfl rfl n9) rfl (D_call (g := eO) (vs := [l5, cC]) en23 (.cons rfl (.cons rfl .nil)) (wk23 dF gO gP) fun iO vV aY hs hr => ?_)
         have hfr := hfr.ext hs
         subst hr
         refine EL_p (.bool (nD)) (P_pick (b := (u9.2 == (0 : Int))) rfl (pick_t n9 rfl)) rfl ?_
         refine EL_mw (.bool (nD)) rfl rfl ?_
         rcases csome h with ⟨gD, h⟩ | ⟨gD, h⟩
         ·obtain ⟨oD, iP, h⟩ := bsome h
          refine EL_do (.yes2 rfl rfl gD) rfl (D_call (g := iO) (vs := []) en25 .nil (wk25  iP) fun jO xV bY hs hr => ?_)
          have hfr := hfr.ext hs
          subst hr
          refine EL_p (.bool (oD)) (P_pick (b := nD) rfl (pick_t gD rfl)) rfl ?_
          refine EL_mw (.bool (oD)) rfl rfl ?_
          rcases csome h with ⟨iD, h⟩ | ⟨iD, h⟩
          ·obtain ⟨sG, jP, h⟩ := bsome h
           refine EL_do (.yes2 rfl rfl iD) rfl (D_call (g := jO) (vs := []) en32 .nil (wk32  jP) fun aS yV cY hs hr => ?_)
           have hfr := hfr.ext hs
           subst hr
           refine EL_p (.bool (sG)) (P_pick (b := oD) rfl (pick_t iD rfl)) rfl ?_
           refine EL_at (.bool (sG)) rfl rfl ?_
           refine EL_nil ?_
           obtain rfl := sinj h
           exact hQ _ _ ⟨aS, hfr, rfl⟩
          ·refine EL_s rfl rfl iD rfl rfl ?_
           refine EL_p (.bool false) (P_pick (b := oD) rfl (pick_f iD rfl)) rfl ?_
           refine EL_at (.bool false) rfl rfl ?_
           refine EL_nil ?_
           obtain rfl := sinj h
           exact hQ _ _ ⟨jO, hfr, rfl⟩
         ·refine EL_s rfl rfl gD rfl rfl ?_
          refine EL_p (.bool false) (P_pick (b := nD) rfl (pick_f gD rfl)) rfl ?_
          refine EL_dead 3 rfl ?_
          refine EL_at (.bool false) rfl rfl ?_
          refine EL_nil ?_
          obtain rfl := sinj h
          exact hQ _ _ ⟨iO, hfr, rfl⟩
        ·refine EL_s rfl rfl n9 rfl rfl ?_
         refine EL_s rfl rfl n9 rfl rfl ?_
         refine EL_s rfl rfl n9 rfl rfl ?_
         refine EL_p (.bool false) (P_pick (b := (u9.2 == (0 : Int))) rfl (pick_f n9 rfl)) rfl ?_
         refine EL_dead 6 rfl ?_
         refine EL_at (.bool false) rfl rfl ?_
         refine EL_nil ?_
         obtain rfl := sinj h
         exact hQ _ _ ⟨eO, hfr, rfl⟩
       ·clear hx
        obtain ⟨dY, hfr, kO⟩ := hR
        refine E_ret (thn_r ?_)
        obtain rfl := sinj h
        exact end1 rfl rfl (show _ = .bool (uC) from kO) ⟨_, hfr, rfl⟩
      ·refine E_cf nH rfl ?_
       exact E_skip (thn_n (dP () _ _ ⟨mH, hfr⟩ h))
     ·rintro _ zV eY ⟨bS, hfr⟩ h
      obtain ⟨rC, hx, h⟩ := bsome h
      refine E_join (fun e w => ∃ (g : Gh) , Fr gI wI g w ∧ e 2 = .bool (rC)) (fun Q' hQ => ?_) (fun aW gY hR => ?_)
      ·replace h := hx
       clear hx
       refine E_region ?_
       obtain ⟨zD, kP, h⟩ := bsome h
       refine EL_do .plain rfl (D_call (g := bS) (vs := []) en25 .nil (wk25  kP) fun lO bW iY hs hr => ?_)
       have hfr := hfr.ext hs
       subst hr
       refine EL_mw (.bool (zD)) rfl rfl ?_
       rcases csome h with ⟨jD, h⟩ | ⟨jD, h⟩
       ·obtain ⟨mG, lP, h⟩ := bsome h
        refine EL_do (.yes2 rfl rfl jD) rfl (D_call (g := lO) (vs := []) en32 .nil (wk32  lP) fun cS cW jY hs hr => ?_)
        have hfr := hfr.ext hs
        subst hr
        refine EL_p (.bool (mG)) (P_pick (b := zD) rfl (pick_t jD rfl)) rfl ?_
        refine EL_at (.bool (mG)) rfl rfl ?_
        refine EL_nil ?_
        obtain rfl := sinj h
        exact hQ _ _ ⟨cS, hfr, rfl⟩
       ·refine EL_s rfl rfl jD rfl rfl ?_
        refine EL_p (.bool false) (P_pick (b := zD) rfl (pick_f jD rfl)) rfl ?_
        refine EL_at (.bool false) rfl rfl ?_
        refine EL_nil ?_
        obtain rfl := sinj h
        exact hQ _ _ ⟨lO, hfr, rfl⟩
      ·clear hx
       obtain ⟨kY, hfr, mO⟩ := hR
       refine E_ret ?_
       obtain rfl := sinj h
       exact end1 rfl rfl (show _ = .bool (rC) from mO) ⟨_, hfr, rfl⟩
end Go.Proofs.YtkfdjkkbnfohjaaDoor
