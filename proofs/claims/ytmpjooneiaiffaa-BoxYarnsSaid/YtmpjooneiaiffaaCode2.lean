import Derived.Test.YtmpjooneiaiffaaCode1
set_option maxRecDepth 8000
set_option maxHeartbeats 4000000
namespace Go.Proofs.Ytmpjooneiaiffaa
open Go.RowKit
def f93 (x0 : List Int) (x1 : Int → Option Bool) : Option (Int) :=
 jn (σ := Unit) (fun _ =>
  some ((-1 : Int))
  ) fun k18 =>
 lp (σ := Int) (fun k19 o0 =>
  bif (decide (o0 < ((x0).length : Int))) then
   jn (σ := Unit) (fun _ =>
    k19 ((w64 (o0 + (1 : Int))))
    ) fun k28 =>
   (idx x0 o0).bind fun j6 =>
   (x1 j6).bind fun m7 =>
   bif m7 then
    some (o0)
   else
    k28 ()
  else
   k18 ()
  ) big ((0 : Int))
theorem en93 : Enters Try.prog 93 := enters_of Try.func93 (by kernel_rfl) rfl
theorem wk93 {gI : Gh} {wI : World} {x0 : List Int} {x1 : Int → Option Bool} {up0 : Value} (rp0 : RV gI.m wI x0 up0) {up1 : Value} (rp1 : FnV1 Try.prog x1 up1 gI wI) {r : Int} (h : f93 x0 x1 = some r) : Fn Try.prog 93 #[up0, up1] gI wI (fun _ _ v => v = .int .i64 (r)) := by
 unfold f93 at h
 refine fn_of_E Try.func93 rfl (Nat.le_of_ble_eq_true rfl) fun g0 hm hfr => ?_
 have rp0 : RV g0.m wI x0 up0 := hm ▸ rp0
 obtain ⟨ff1, fa1, fc1, rfl, fen1, fcl1⟩ := rp1
 show E _ 19 none _ _ _ _ _
 refine E_seq (E_region (EL_at (.int .i64 (0)) rfl rfl ?_))
 refine EL_nil (thn_n (E_joinC h (fun (s : Unit) e w => ∃ (g : Gh) , Fr gI wI g w) (fun X18 k18 v7 h => ?_) ?_))
 ·refine E_seq (E_region (EL_mw up0 rfl rfl ?_))
  refine EL_p (.int .i64 ((x0).length : Int)) (P_len Try.underlying22 rfl rp0) rfl ?_
  refine EL_mw (.int .i64 (0)) rfl rfl ?_
  refine EL_nil (thn_n (E_block ?_))
  refine E_lp h (fun (s : Int) e w => ∃ (g : Gh) , Fr gI wI g w ∧ e 0 = up0 ∧ RV g.m w (x0 : List Int) up0 ∧ e 1 = (.func (.func ff1) fa1 fc1) ∧ e 7 = .int .i64 (((x0).length : Int)) ∧ e 8 = .int .i64 (s)) ⟨g0, hfr, rfl, rp0, rfl, rfl, rfl⟩ (fun X19 k19 g8 => ?_)
  rintro o0 r8 x8 ⟨v6, hfr, t5, i3, x5, i6, u3⟩ h
  refine E_seq (E_region (EL_in (.bool ((decide (o0 < ((x0).length : Int))))) u3 i6 rfl rfl ?_))
  refine EL_nil (thn_n (E_seq ?_))
  rcases csome h with ⟨i5, h⟩ | ⟨i5, h⟩
  ·refine E_ct i5 rfl ?_
   refine E_skip (thn_n (E_joinC h (fun (s : Unit) e w => ∃ (g : Gh) , Fr gI wI g w ∧ e 0 = up0 ∧ RV g.m w (x0 : List Int) up0 ∧ e 1 = (.func (.func ff1) fa1 fc1) ∧ e 7 = .int .i64 (((x0).length : Int)) ∧ e 8 = .int .i64 (o0)) (fun X28 k28 i8 h => ?_) ?_))
   ·refine E_block ?_
    refine E_seq (E_region (EL_mv u3 rfl ?_))
    refine EL_at (.int .i64 (o0)) rfl rfl ?_
    refine EL_nil (thn_n (E_seq (E_region (EL_mv x5 rfl ?_))))
    refine EL_mv t5 rfl ?_
    refine EL_mw (.int .i64 (o0)) rfl rfl ?_
    obtain ⟨j6, x6, h⟩ := bsome h
    refine EL_p (ePtr up0 o0 1) (P_indexAddr (α := Int) Try.underlying22 Try.sizeOf3 rfl i3 rfl x6) rfl ?_
    have l8 := PT_idx i3 x6
    refine EL_do .plain rfl (D_load (g := v6) Try.isAgg3 Try.sizeOf3 rfl l8 fun a9 m8 => ?_)
    obtain rfl := RV_int.1 m8
    obtain ⟨m7, k8, h⟩ := bsome h
    refine EL_do .plain rfl (D_callv (g := v6) (vs := [.int .i64 (j6)]) rfl fen1 (.cons rfl .nil) (fcl1 _ _ hfr.ch _ _ _  (RV_int.2 rfl) k8) fun n8 d9 k9 hs hr => ?_)
    have hfr := hfr.ext hs
    have i3 := i3.ext hs
    obtain rfl := RV_bool.1 hr
    refine EL_nil (thn_n ?_)
    rcases csome h with ⟨l5, h⟩ | ⟨l5, h⟩
    ·refine E_ct l5 rfl ?_
     refine E_seq (E_region (EL_mw (.int .i64 (o0)) rfl rfl ?_))
     refine EL_at (.int .i64 (o0)) rfl rfl ?_
     refine EL_nil (thn_n (E_ret (blk_r ?_)))
     refine thn_r ?_
     refine thn_r ?_
     refine blk_r ?_
     refine thn_r ?_
     obtain rfl := sinj h
     exact end1 rfl rfl (show _ = .int .i64 (o0) from rfl) ⟨_, hfr, rfl⟩
    ·refine E_cf l5 rfl ?_
     exact E_skip (blk_n (thn_n (i8 () _ _ ⟨n8, hfr, t5, i3, x5, i6, u3⟩ h)))
   ·rintro _ t8 l9 ⟨q8, hfr, y6, a7, d7, i7, j7⟩ h
    refine E_region (EL_in (.int .i64 ((w64 (o0 + (1 : Int))))) j7 rfl rfl rfl ?_)
    refine EL_mw (.int .i64 ((w64 (o0 + (1 : Int))))) rfl rfl ?_
    exact EL_nil (thn_n (g8 ((w64 (o0 + (1 : Int)))) _ _ ⟨q8, hfr, y6, a7, d7, i7, rfl⟩ h))
  ·refine E_cf i5 rfl ?_
   refine E_exit ?_
   refine thn_e ?_
   refine thn_e ?_
   refine blk_hit ?_
   exact thn_n (v7 () _ _ ⟨v6, hfr⟩ h)
 ·rintro _ v8 n9 ⟨u9, hfr⟩ h
  refine E_seq (E_region (EL_at (.int .i64 (-1)) rfl rfl ?_))
  refine EL_nil (thn_n (E_ret ?_))
  obtain rfl := sinj h
  exact end1 rfl rfl (show _ = .int .i64 (-1) from rfl) ⟨_, hfr, rfl⟩
def f94 (x0 : Int) (m1 : List (Int × Int)) (z1 : Span → Option Int) (z2 : BoxBoxLoom) : Option (Bool × (List (Int × Int))) :=
 (idx (((z2).BoxLoom).Shuttles) (w64 (x0 - (1 : Int)))).bind fun i5 =>
 (z1 ((i5).Yarn)).bind fun o0 =>
 some ((decide (((mget ((mset m1 x0 ((w64 (((mget m1 x0).getD (0 : Int)) + (1 : Int)))))) x0).getD (0 : Int)) > o0)), (mset m1 x0 ((w64 (((mget m1 x0).getD (0 : Int)) + (1 : Int))))))
theorem en94 : Enters Try.prog 94 := enters_of Try.func94 (by kernel_rfl) rfl
theorem wk94 {iI : Nat} {gI : Gh} {wI : World} {x0 : Int} {m1 : List (Int × Int)} {z1 : Span → Option Int} {z2 : BoxBoxLoom} {pf0 : Value} {kv500001 : Value} (fc1 : FC gI.m wI 0 kv500001 pf0) (mp500001 : MP (Value.int .i64) iI gI wI m1 kv500001) {pf1 : Value} {qv1 : Fv} (qf1 : PT gI.m wI qv1 pf1) (rp2 : FnV1 Try.prog z1 qv1.v gI wI) {pf2 : Value} (qf2 : PT gI.m wI z2 pf2) {r : Bool × (List (Int × Int))} (h : f94 x0 m1 z1 z2 = some r) : FnM Try.prog 94 #[.int .i64 (x0), pf0, pf1, pf2] iI gI wI (fun g w v => v = .bool (r.1) ∧ MP (Value.int .i64) iI g w (r.2) kv500001) := by
 unfold f94 at h
 refine fnM_of_E Try.func94 rfl (Nat.le_of_ble_eq_true rfl) fun g0 hm hfr => ?_
 have i3 := mp500001
 replace mp500001 := mp500001.enter
 rw [← hm] at mp500001
 replace hm : g0.m = gI.m := by rw [hm]
 have fc1 : FC g0.m wI 0 kv500001 pf0 := hm ▸ fc1
 obtain ⟨ff2, fa2, fc2, hq2, fen2, fcl2⟩ := rp2
 have qf1 : PT g0.m wI qv1 pf1 := hm ▸ qf1
 have qf2 : PT g0.m wI z2 pf2 := hm ▸ qf2
 show E _ 24 none _ _ _ _ _
 refine E_seq (E_region (EL_at (.bool false) rfl rfl ?_))
 refine EL_nil (thn_n (E_seq (E_region (EL_do .plain rfl (D_loadFC0 (g := g0) Try.isAgg160 Try.sizeOf160 (mp_one mp500001) rfl fc1 ?_)))))
 refine EL_mw (.int .i64 (x0)) rfl rfl ?_
 refine EL_do .plain rfl (D_lookup (g := g0) (z0 := (0 : Int)) Try.underlying160 key_3 Try.zeroValue3 (fun m w => ⟨_, rep_int, rfl⟩) rfl mp500001 rfl fun v2 r2 => ?_)
 obtain rfl := RV_int.1 r2
 refine EL_in (.int .i64 ((w64 (((mget m1 x0).getD (0 : Int)) + (1 : Int))))) rfl rfl rfl rfl ?_
 refine EL_do .plain rfl (D_mapUpdate (g := g0) Try.underlying160 key_3 rfl mp500001 rfl rfl (RV_int.2 rfl) fun g3 w3 hs m3 => ?_)
 have hfr := hfr.stp hs
 have fc1 := fc1.stp hs
 have qf1 := qf1.stp hs
 have qf2 := qf2.stp hs
 refine EL_nil (thn_n (E_seq ?_))
 have j6 := L_loadFC0 (P := Try.prog) (x := .tmp 1) Try.isAgg160 Try.sizeOf160 (mp_one m3) fc1
 refine L_load (α := Fv) (x := .tmp 2) Try.isAgg132 Try.sizeOf132 qf1 fun v6 r6 x6 => ?_
 obtain rfl := (RV_fv.1 r6).trans hq2
 have q7 := PT_field (part_BoxBoxLoom_0).1 qf2
 have q8 := PT_field (part_BoxLoom_2).1 q7
 refine L_load (x := .tmp 15) Try.isAgg23 Try.sizeOf23 q8 fun v9 r9 y6 => ?_
 obtain ⟨i5, u3, h⟩ := bsome h
 have l5 := PT_idx r9 u3
 have a7 := PT_field (part_BoxShuttle_3).1 l5
 refine L_load (x := .tmp 20) Try.isAgg85 Try.sizeOf85 a7 fun t5 d7 x5 => ?_
 obtain ⟨o0, i6, h⟩ := bsome h
 refine E_drawL (g := g3) (n := 15) [(2, (fun v _ _ => v = .int .i64 (((mget ((mset m1 x0 ((w64 (((mget m1 x0).getD (0 : Int)) + (1 : Int)))))) x0).getD (0 : Int))))), (12, (fun v g w => v = .int .i64 (o0)))] [0, 1, 2, 3, 4, 5, 6, 7, 8, 9, 10, 11, 12, 13, 14] rfl mixed (by kernel_rfl) (⟨fun _ => up_eq _, fun _ => up_eq _, trivial⟩) ?_
 refine L_ld (c := kv500001) rfl rfl .plain (fun _ _ h => h.ch) j6 rfl ?_
 refine L_p (.int .i64 (x0)) rfl rfl (P_move rfl) ?_
 refine L_do (φ := (fun v _ _ => v = .int .i64 (((mget ((mset m1 x0 ((w64 (((mget m1 x0).getD (0 : Int)) + (1 : Int)))))) x0).getD (0 : Int))))) rfl rfl .plain (fun g w hd => D_lookup (g := g) (z0 := (0 : Int)) Try.underlying160 key_3 Try.zeroValue3 (fun m w => ⟨_, rep_int, rfl⟩) rfl (m3.ext hd.1) rfl fun v r => ⟨g, Ext.refl g w, RV_int.1 r⟩) (fun v5 hv => ?_)
 obtain ⟨_, _, _, rfl⟩ := hv
 refine L_ld (c := (.func (.func ff2) fa2 fc2)) rfl rfl .plain (fun _ _ h => h.ch) x6 rfl ?_
 refine L_p (fPtr pf2 0) rfl rfl (P_fieldAddr at_102_0 rfl (PT.ptr qf2)) ?_
 refine L_p (fPtr (fPtr pf2 0) 2) rfl rfl (P_fieldAddr at_25_2 rfl (PT.ptr q7)) ?_
 refine L_ld (c := v9) rfl rfl .plain (fun _ _ h => h.ch) y6 rfl ?_
 refine L_p (.int .i64 (x0)) rfl rfl (P_move rfl) ?_
 refine L_p (.int .i64 ((w64 (x0 - (1 : Int))))) rfl rfl (P_int rfl rfl rfl) ?_
 refine L_p (ePtr v9 (w64 (x0 - (1 : Int))) 5) rfl rfl (P_indexAddr (α := BoxShuttle) Try.underlying23 Try.sizeOf87 rfl r9 rfl u3) ?_
 refine L_p (fPtr (ePtr v9 (w64 (x0 - (1 : Int))) 5) 3) rfl rfl (P_fieldAddr at_87_3 rfl (PT.ptr l5)) ?_
 refine L_ld (c := t5) rfl rfl .plain (fun _ _ h => h.ch) x5 rfl ?_
 refine L_do (φ := fun v g w => v = .int .i64 (o0)) rfl rfl .plain (fun g w hd => D_callv (g := g) (vs := [t5]) rfl fen2 (.cons rfl .nil) (fcl2 _ _ (hfr.ext hd.1).ch _ _ _  (d7.ext hd.1) i6) fun g' w' v hs hr => ⟨g', hs, RV_int.1 hr⟩) (fun i7 hv => ?_)
 obtain ⟨_, _, _, rfl⟩ := hv
 refine L_p (.bool ((decide (((mget ((mset m1 x0 ((w64 (((mget m1 x0).getD (0 : Int)) + (1 : Int)))))) x0).getD (0 : Int)) > o0)))) rfl rfl (P_int rfl rfl rfl) ?_
 refine L_p (.bool ((decide (((mget ((mset m1 x0 ((w64 (((mget m1 x0).getD (0 : Int)) + (1 : Int)))))) x0).getD (0 : Int)) > o0)))) rfl rfl (P_assign rfl) ?_
 refine L_nl fun j7 m7 hs => ?_
 have hfr := hfr.ext hs
 have m3 := m3.ext hs
 clear hs
 refine EL_nil (thn_n (E_ret ?_))
 obtain rfl := sinj h
 exact end1 rfl rfl (show _ = .bool ((decide (((mget ((mset m1 x0 ((w64 (((mget m1 x0).getD (0 : Int)) + (1 : Int)))))) x0).getD (0 : Int)) > o0))) from rfl) ⟨_, hfr, rfl, i3.back m3⟩
theorem ws93 {σ : Type} {I : σ → Gh → World → Prop} {φ : σ → Int → Option (Bool × σ)} {x0 : List Int} {up0 : Value} {ff : FuncId} {caps : Array Value} {gI : Gh} {wI : World} {s0 : σ} {r : Int} (i : Nat) (hen : Enters Try.prog ff)
  (hφ : ∀ s x b s' g w, φ s x = some (b, s') → I s g w → Ch gI.m wI g.m w → FnM Try.prog ff (#[] ++ #[.int .i64 x] ++ caps) i g w (fun g' w' v => v = .bool b ∧ I s' g' w'))
  (rp0 : RV gI.m wI x0 up0) (h0 : I s0 gI wI) (h : idxS x0 φ s0 = some r) : Calls Try.prog 93 #[up0, .func (.func ff) #[] caps] wI fun e w => ∃ v, e = .returned v ∧ v = .int .i64 r ∧ ∃ g s', Stp i gI wI g w ∧ I s' g w := by
 unfold idxS at h
 refine calls_of_E Try.func93 rfl (Nat.le_of_ble_eq_true rfl) (R := fun v w => v = .int .i64 r ∧ ∃ g s', Stp i gI wI g w ∧ I s' g w) ?_
 have hfr : Stp i gI wI gI wI := (Ext.refl gI wI).stp
 show E _ 19 none _ _ _ _ _
 refine E_seq (E_region (EL_at (.int .i64 (0)) rfl rfl (EL_nil (thn_n ?_))))
 refine E_joinC h (fun (_ : Unit) e w => ∃ (g : Gh) (t : σ), Stp i gI wI g w ∧ I t g w) (fun X18 k18 m7 h => ?_) ?_
 ·refine E_seq (E_region (EL_mw up0 rfl rfl ?_))
  refine EL_p (.int .i64 ((x0).length : Int)) (P_len Try.underlying22 rfl rp0) rfl ?_
  refine EL_mw (.int .i64 (0)) rfl rfl (EL_nil (thn_n (E_block ?_)))
  refine E_lp h (fun (s : σ × Int) e w => ∃ (g : Gh) , Stp i gI wI g w ∧ I s.1 g w ∧ e 0 = up0 ∧ RV g.m w (x0 : List Int) up0 ∧ e 1 = (.func (.func ff) #[] caps) ∧ e 7 = .int .i64 (((x0).length : Int)) ∧ e 8 = .int .i64 (s.2)) ⟨gI, hfr, h0, rfl, rp0, rfl, rfl, rfl⟩ (fun X19 k19 g8 => ?_)
  rintro ⟨v8, o0⟩ x8 k9 ⟨j6, hfr, hI, t5, i3, x5, i6, u3⟩ h
  refine E_seq (E_region (EL_in (.bool ((decide (o0 < ((x0).length : Int))))) u3 i6 rfl rfl (EL_nil (thn_n ?_))))
  refine E_seq ?_
  rcases csome h with ⟨i5, h⟩ | ⟨i5, h⟩
  ·refine E_ct i5 rfl (E_skip (thn_n ?_))
   refine E_joinC h (fun (t : σ) e w => ∃ (g : Gh) , Stp i gI wI g w ∧ I t g w ∧ e 0 = up0 ∧ RV g.m w (x0 : List Int) up0 ∧ e 1 = (.func (.func ff) #[] caps) ∧ e 7 = .int .i64 (((x0).length : Int)) ∧ e 8 = .int .i64 (o0)) (fun X28 k28 i8 h => ?_) ?_
   ·refine E_block (E_seq (E_region ?_))
    refine EL_mv u3 rfl ?_
    refine EL_at (.int .i64 (o0)) rfl rfl (EL_nil (thn_n (E_seq (E_region ?_))))
    refine EL_mv x5 rfl ?_
    refine EL_mv t5 rfl ?_
    refine EL_mw (.int .i64 (o0)) rfl rfl ?_
    obtain ⟨m8, v6, h⟩ := bsome h
    refine EL_p (ePtr up0 o0 1) (P_indexAddr (α := Int) Try.underlying22 Try.sizeOf3 rfl i3 rfl v6) rfl ?_
    have n8 := PT_idx i3 v6
    refine EL_do .plain rfl (D_load (g := j6) Try.isAgg3 Try.sizeOf3 rfl n8 fun l9 q8 => ?_)
    obtain rfl := RV_int.1 q8
    obtain ⟨⟨b33, t33⟩, k8, h⟩ := bsome h
    refine EL_do .plain rfl (D_callvM (g := j6) (vs := [.int .i64 (m8)]) rfl hen (.cons rfl .nil) (hφ _ _ _ _ _ _ k8 hI hfr.ch) fun j7 n9 u9 hs hr => ?_)
    obtain ⟨rfl, hI⟩ := hr
    have hfr := hfr.trans hs
    have i3 := i3.stp hs
    refine EL_nil (thn_n ?_)
    rcases csome h with ⟨l5, h⟩ | ⟨l5, h⟩
    ·refine E_ct l5 rfl (E_seq (E_region ?_))
     refine EL_mw (.int .i64 (o0)) rfl rfl ?_
     refine EL_at (.int .i64 (o0)) rfl rfl (EL_nil (thn_n (E_ret ?_)))
     refine blk_r (thn_r (thn_r (blk_r (thn_r ?_))))
     obtain rfl := sinj h
     exact end1 rfl rfl (show _ = .int .i64 (o0) from rfl) ⟨rfl, j7, t33, hfr, hI⟩
    ·refine E_cf l5 rfl (E_skip (blk_n ?_))
     exact thn_n (i8 t33 _ _ ⟨j7, hfr, hI, t5, i3, x5, i6, u3⟩ h)
   ·rintro l8 a9 y9 ⟨r8, hfr, hI, x6, y6, a7, d7, i7⟩ h
    refine E_region (EL_in (.int .i64 ((w64 (o0 + (1 : Int))))) i7 rfl rfl rfl ?_)
    refine EL_mw (.int .i64 ((w64 (o0 + (1 : Int))))) rfl rfl (EL_nil ?_)
    exact thn_n (g8 (l8, (w64 (o0 + (1 : Int)))) _ _ ⟨r8, hfr, hI, x6, y6, a7, d7, rfl⟩ h)
  ·refine E_cf i5 rfl (E_exit (thn_e (thn_e (blk_hit ?_))))
   exact thn_n (m7 () _ _ ⟨j6, _, hfr, hI⟩ h)
 ·rintro _ d9 z9 ⟨t8, t36, hfr, hI⟩ h
  refine E_seq (E_region (EL_at (.int .i64 (-1)) rfl rfl (EL_nil (thn_n (E_ret ?_)))))
  obtain rfl := sinj h
  exact end1 rfl rfl (show _ = .int .i64 (-1) from rfl) ⟨rfl, t8, t36, hfr, hI⟩
def f73 (x0 : BoxBoxLoom) (x1 : List Int) (x2 : Span → Option Int) : Option Int := idxS x1 (fun m n => f94 n m x2 x0) []
theorem en73 : Enters Try.prog 73 := enters_of Try.func73 (by kernel_rfl) rfl
theorem wk73 {gI : Gh} {wI : World} {x0 : BoxBoxLoom} {x1 : List Int} {x2 : Span → Option Int} {up0 up1 up2 : Value} (rp0 : RV gI.m wI x0 up0) (rp1 : RV gI.m wI x1 up1) (rp2 : FnV1 Try.prog x2 up2 gI wI) {r : Int} (h : f73 x0 x1 x2 = some r) : Fn Try.prog 73 #[up0, up1, up2] gI wI (fun _ _ v => v = .int .i64 (r)) := by
 unfold f73 at h
 refine fn_of_E Try.func73 rfl (Nat.le_of_ble_eq_true rfl) fun g0 hm hfr => ?_
 have rp0 : RV g0.m wI x0 up0 := hm ▸ rp0
 have rp1 : RV g0.m wI x1 up1 := hm ▸ rp1
 have hone : up2.oneCell' = true := by obtain ⟨ff, fa, fc, rfl, _⟩ := rp2; rfl
 have hfc : Ch gI.m wI g0.m wI := hm ▸ Ch.refl _ _
 show E _ 12 none _ _ _ _ _
 refine E_seq (E_region (EL_do .plain rfl (D_box (g := g0) rfl rp0 fun g1 w1 p1 hs q1 => ?_)))
 have hfr := hfr.ext hs
 have hfc := hfc.trans hs.ch
 have rp1 := rp1.ext hs
 refine EL_do .plain rfl (D_box (g := g1) (a := (⟨up2, hone⟩ : Fv)) rfl (RV_fv.2 rfl) fun g2 w2 p2 hs q2 => ?_)
 have hfr := hfr.ext hs
 have hfc := hfc.trans hs.ch
 have rp1 := rp1.ext hs
 have q1 := q1.ext hs
 refine EL_at (.int .i64 (0)) rfl rfl (EL_nil (thn_n ?_))
 refine E_seq (E_region (EL_do .plain rfl (D_makeMap (g := g2) (Value.int .i64) Int 8008 fun g3 w3 v3 hs m3 => ?_)))
 have hfr := hfr.stp hs
 have hfc := hfc.trans hs.ch
 have rp1 := rp1.stp hs
 have q1 := q1.stp hs
 have q2 := q2.stp hs
 refine EL_do .plain rfl (D_allocOc (g := g3) 2007 (⟨.map none, rfl⟩ : Fv) Try.zeroValue160 (fun _ _ => fvm_rep) fun g4 w4 p4 hs b4 cb => ?_)
 clear cb
 have hfr := hfr.stp hs
 have hfc := hfc.trans hs.ch
 have rp1 := rp1.stp hs
 have q1 := q1.stp hs
 have q2 := q2.stp hs
 have m3 := m3.stp hs rfl
 have hv3 := mp_one m3
 refine EL_do .plain rfl (D_storeOc (g := g4) (v := v3) (a' := (⟨v3, hv3⟩ : Fv)) Try.sizeOf160 rfl b4 rfl (RV_fv.2 rfl) fun g5 w5 hs b5 cb => ?_)
 clear cb
 have hfr := hfr.stp hs
 have hfc := hfc.trans hs.ch
 have rp1 := rp1.stp hs
 have q1 := q1.stp hs
 have q2 := q2.stp hs
 have m3 := m3.stp hs rfl
 obtain ⟨g6, hs, q6⟩ := OB.pub b5
 have hfr := hfr.stp hs
 have hfc := hfc.trans hs.ch
 have rp1 := rp1.stp hs
 have q1 := q1.stp hs
 have q2 := q2.stp hs
 have m3 := m3.stp hs rfl
 have fc6 := q6.fc
 have rp2 := rp2.ch (g' := g6) (w' := w5) hfc
 refine EL_nil (thn_n (E_seq (E_region (EL_mw up1 rfl rfl ?_))))
 refine EL_p (.func (.func 94) #[] #[p4, p2, p1]) (P_makeFunc (capf_0_3 rfl rfl rfl)) rfl ?_
 refine EL_do .plain rfl (D_callC (vs := [up1, .func (.func 94) #[] #[p4, p2, p1]]) en93 (.cons rfl (.cons rfl .nil)) (ws93 (I := fun m g w => MP (Value.int .i64) 8008 g w m v3) 8008 en94 (fun s x b s' g w hx hI hch => ?_) rp1 m3 h) fun v7 w7 hq => ?_)
 ·exact wk94 (fc6.ch hch) hI (q2.ch hch) (rp2.ch hch) (q1.ch hch) hx
 ·obtain ⟨rfl, g7, s7, hs, _⟩ := hq
  have hfr := hfr.stp hs
  refine EL_at (.int .i64 r) rfl rfl (EL_nil (thn_n (E_ret ?_)))
  exact end1 rfl rfl (show _ = .int .i64 r from rfl) ⟨_, hfr, rfl⟩
def f102 (x0 : List BoxShuttle) (x1 : BoxShuttle → Option Bool) : Option (Int) :=
 jn (σ := Unit) (fun _ =>
  some ((-1 : Int))
  ) fun k18 =>
 lp (σ := Int) (fun k19 o0 =>
  bif (decide (o0 < ((x0).length : Int))) then
   jn (σ := Unit) (fun _ =>
    k19 ((w64 (o0 + (1 : Int))))
    ) fun k28 =>
   (idx x0 o0).bind fun j7 =>
   (x1 j7).bind fun m7 =>
   bif m7 then
    some (o0)
   else
    k28 ()
  else
   k18 ()
  ) big ((0 : Int))
theorem en102 : Enters Try.prog 102 := enters_of Try.func102 (by kernel_rfl) rfl
theorem wk102 {gI : Gh} {wI : World} {x0 : List BoxShuttle} {x1 : BoxShuttle → Option Bool} {up0 : Value} (rp0 : RV gI.m wI x0 up0) {up1 : Value} (rp1 : FnV1 Try.prog x1 up1 gI wI) {r : Int} (h : f102 x0 x1 = some r) : Fn Try.prog 102 #[up0, up1] gI wI (fun _ _ v => v = .int .i64 (r)) := by
 unfold f102 at h
 refine fn_of_E Try.func102 rfl (Nat.le_of_ble_eq_true rfl) fun g0 hm hfr => ?_
 have rp0 : RV g0.m wI x0 up0 := hm ▸ rp0
 obtain ⟨ff1, fa1, fc1, rfl, fen1, fcl1⟩ := rp1
 show E _ 19 none _ _ _ _ _
 refine E_seq (E_region (EL_at (.int .i64 (0)) rfl rfl ?_))
 refine EL_nil (thn_n (E_joinC h (fun (s : Unit) e w => ∃ (g : Gh) , Fr gI wI g w) (fun X18 k18 v7 h => ?_) ?_))
 ·refine E_seq (E_region (EL_mw up0 rfl rfl ?_))
  refine EL_p (.int .i64 ((x0).length : Int)) (P_len Try.underlying23 rfl rp0) rfl ?_
  refine EL_mw (.int .i64 (0)) rfl rfl ?_
  refine EL_nil (thn_n (E_block ?_))
  refine E_lp h (fun (s : Int) e w => ∃ (g : Gh) , Fr gI wI g w ∧ e 0 = up0 ∧ RV g.m w (x0 : List BoxShuttle) up0 ∧ e 1 = (.func (.func ff1) fa1 fc1) ∧ e 7 = .int .i64 (((x0).length : Int)) ∧ e 8 = .int .i64 (s)) ⟨g0, hfr, rfl, rp0, rfl, rfl, rfl⟩ (fun X19 k19 g8 => ?_)
  rintro o0 t8 a9 ⟨j6, hfr, t5, i3, x5, i6, u3⟩ h
  refine E_seq (E_region (EL_in (.bool ((decide (o0 < ((x0).length : Int))))) u3 i6 rfl rfl ?_))
  refine EL_nil (thn_n (E_seq ?_))
  rcases csome h with ⟨i5, h⟩ | ⟨i5, h⟩
  ·refine E_ct i5 rfl ?_
   refine E_skip (thn_n (E_joinC h (fun (s : Unit) e w => ∃ (g : Gh) , Fr gI wI g w ∧ e 0 = up0 ∧ RV g.m w (x0 : List BoxShuttle) up0 ∧ e 1 = (.func (.func ff1) fa1 fc1) ∧ e 7 = .int .i64 (((x0).length : Int)) ∧ e 8 = .int .i64 (o0)) (fun X28 k28 i8 h => ?_) ?_))
   ·refine E_block ?_
    refine E_seq (E_region (EL_mv u3 rfl ?_))
    refine EL_at (.int .i64 (o0)) rfl rfl ?_
    refine EL_nil (thn_n (E_seq (E_region (EL_mv x5 rfl ?_))))
    refine EL_mv t5 rfl ?_
    refine EL_mw (.int .i64 (o0)) rfl rfl ?_
    obtain ⟨j7, v6, h⟩ := bsome h
    refine EL_p (ePtr up0 o0 5) (P_indexAddr (α := BoxShuttle) Try.underlying23 Try.sizeOf87 rfl i3 rfl v6) rfl ?_
    have l8 := PT_idx i3 v6
    refine EL_do .plain rfl (D_load (g := j6) Try.isAgg87 Try.sizeOf87 rfl l8 fun m8 n8 => ?_)
    obtain ⟨m7, k8, h⟩ := bsome h
    refine EL_do .plain rfl (D_callv (g := j6) (vs := [m8]) rfl fen1 (.cons rfl .nil) (fcl1 _ _ hfr.ch _ _ _  n8 k8) fun q8 d9 k9 hs hr => ?_)
    have hfr := hfr.ext hs
    have i3 := i3.ext hs
    obtain rfl := RV_bool.1 hr
    refine EL_nil (thn_n ?_)
    rcases csome h with ⟨l5, h⟩ | ⟨l5, h⟩
    ·refine E_ct l5 rfl ?_
     refine E_seq (E_region (EL_mw (.int .i64 (o0)) rfl rfl ?_))
     refine EL_at (.int .i64 (o0)) rfl rfl ?_
     refine EL_nil (thn_n (E_ret (blk_r ?_)))
     refine thn_r ?_
     refine thn_r ?_
     refine blk_r ?_
     refine thn_r ?_
     obtain rfl := sinj h
     exact end1 rfl rfl (show _ = .int .i64 (o0) from rfl) ⟨_, hfr, rfl⟩
    ·refine E_cf l5 rfl ?_
     exact E_skip (blk_n (thn_n (i8 () _ _ ⟨q8, hfr, t5, i3, x5, i6, u3⟩ h)))
   ·rintro _ v8 l9 ⟨r8, hfr, x6, y6, a7, d7, i7⟩ h
    refine E_region (EL_in (.int .i64 ((w64 (o0 + (1 : Int))))) i7 rfl rfl rfl ?_)
    refine EL_mw (.int .i64 ((w64 (o0 + (1 : Int))))) rfl rfl ?_
    exact EL_nil (thn_n (g8 ((w64 (o0 + (1 : Int)))) _ _ ⟨r8, hfr, x6, y6, a7, d7, rfl⟩ h))
  ·refine E_cf i5 rfl ?_
   refine E_exit ?_
   refine thn_e ?_
   refine thn_e ?_
   refine blk_hit ?_
   exact thn_n (v7 () _ _ ⟨j6, hfr⟩ h)
 ·rintro _ x8 n9 ⟨u9, hfr⟩ h
  refine E_seq (E_region (EL_at (.int .i64 (-1)) rfl rfl ?_))
  refine EL_nil (thn_n (E_ret ?_))
  obtain rfl := sinj h
  exact end1 rfl rfl (show _ = .int .i64 (-1) from rfl) ⟨_, hfr, rfl⟩
def f103 (x0 : List Int) (x1 : Int → Option Bool) : Option (Bool) :=
 (f93 x0 x1).bind fun y2 =>
 some ((decide (y2 ≥ (0 : Int))))
theorem en103 : Enters Try.prog 103 := enters_of Try.func103 (by kernel_rfl) rfl
theorem wk103 {gI : Gh} {wI : World} {x0 : List Int} {x1 : Int → Option Bool} {up0 : Value} (rp0 : RV gI.m wI x0 up0) {up1 : Value} (rp1 : FnV1 Try.prog x1 up1 gI wI) {r : Bool} (h : f103 x0 x1 = some r) : Fn Try.prog 103 #[up0, up1] gI wI (fun _ _ v => v = .bool (r)) := by
 unfold f103 at h
 refine fn_of_E Try.func103 rfl (Nat.le_of_ble_eq_true rfl) fun g0 hm hfr => ?_
 have rp0 : RV g0.m wI x0 up0 := hm ▸ rp0
 obtain ⟨ff1, fa1, fc1, rfl, fen1, fcl1⟩ := rp1
 show E _ 9 none _ _ _ _ _
 refine E_seq (E_region (EL_at (.bool false) rfl rfl ?_))
 refine EL_nil (thn_n (E_seq (E_region (EL_mw up0 rfl rfl ?_))))
 refine EL_mw ((.func (.func ff1) fa1 fc1)) rfl rfl ?_
 obtain ⟨y2, hy2, h⟩ := bsome h
 refine EL_do .plain rfl (D_call (g := g0) (vs := [up0, (.func (.func ff1) fa1 fc1)]) en93 (.cons rfl (.cons rfl .nil)) (wk93 rp0 (FnV1.ch ⟨_, _, _, rfl, fen1, fcl1⟩ hfr.ch) hy2) fun g1 w1_ v1 hs hr => ?_)
 have hfr := hfr.ext hs
 subst hr
 refine EL_in (.bool ((decide (y2 ≥ (0 : Int))))) rfl rfl rfl rfl ?_
 refine EL_at (.bool ((decide (y2 ≥ (0 : Int))))) rfl rfl ?_
 refine EL_nil (thn_n (E_ret ?_))
 obtain rfl := sinj h
 exact end1 rfl rfl (show _ = .bool ((decide (y2 ≥ (0 : Int)))) from rfl) ⟨_, hfr, rfl⟩
def f104 (x0 : Int) (z0 : Int) (z1 : Int) : Option (Bool) :=
 Option.bind (α := Bool) (
  bif (decide (x0 < z0)) then
   some (true)
  else
   some ((decide (x0 > z1)))
  ) fun o0 =>
 some (o0)
theorem en104 : Enters Try.prog 104 := enters_of Try.func104 (by kernel_rfl) rfl
theorem wk104 {gI : Gh} {wI : World} {x0 : Int} {z0 : Int} {z1 : Int} {pf0 : Value} (qf0 : PT gI.m wI z0 pf0) {pf1 : Value} (qf1 : PT gI.m wI z1 pf1) {r : Bool} (h : f104 x0 z0 z1 = some r) : Fn Try.prog 104 #[.int .i64 (x0), pf0, pf1] gI wI (fun _ _ v => v = .bool (r)) := by
 unfold f104 at h
 refine fn_of_E Try.func104 rfl (Nat.le_of_ble_eq_true rfl) fun g0 hm hfr => ?_
 have qf0 : PT g0.m wI z0 pf0 := hm ▸ qf0
 have qf1 : PT g0.m wI z1 pf1 := hm ▸ qf1
 show E _ 13 none _ _ _ _ _
 refine E_seq (E_region (EL_at (.bool false) rfl rfl ?_))
 refine EL_nil (thn_n ?_)
 obtain ⟨o0, hx, h⟩ := bsome h
 refine E_join (fun e w => ∃ (g : Gh) , Fr gI wI g w ∧ e 4 = .bool (o0)) (fun Q' hQ => ?_) (fun u3 w7 hR => ?_)
 ·replace h := hx
  clear hx
  refine E_region (EL_mw (.int .i64 (x0)) rfl rfl ?_)
  refine EL_do .plain rfl (D_load (g := g0) Try.isAgg3 Try.sizeOf3 rfl qf0 fun v4 r4 => ?_)
  obtain rfl := RV_int.1 r4
  refine EL_in (.bool ((decide (x0 < z0)))) rfl rfl rfl rfl ?_
  refine EL_mw (.bool ((decide (x0 < z0)))) rfl rfl ?_
  rcases csome h with ⟨hc5, h⟩ | ⟨hc5, h⟩
  ·refine EL_s rfl rfl hc5 rfl rfl ?_
   refine EL_s rfl rfl hc5 rfl rfl ?_
   refine EL_s rfl rfl hc5 rfl rfl ?_
   refine EL_p (.bool true) (P_pick (b := (decide (x0 < z0))) rfl (pick_t hc5 rfl)) rfl ?_
   refine EL_at (.bool true) rfl rfl ?_
   refine EL_nil ?_
   obtain rfl := sinj h
   exact hQ _ _ ⟨g0, hfr, rfl⟩
  ·refine EL_y (.int .i64 (x0)) (P_move rfl) rfl rfl hc5 rfl ?_
   refine EL_do (.yes2 rfl rfl hc5) rfl (D_load (g := g0) Try.isAgg3 Try.sizeOf3 rfl qf1 fun v6 r6 => ?_)
   obtain rfl := RV_int.1 r6
   refine EL_y (.bool ((decide (x0 > z1)))) (P_int rfl rfl rfl) rfl rfl hc5 rfl ?_
   refine EL_p (.bool ((decide (x0 > z1)))) (P_pick (b := (decide (x0 < z0))) rfl (pick_f hc5 rfl)) rfl ?_
   refine EL_at (.bool ((decide (x0 > z1)))) rfl rfl ?_
   refine EL_nil ?_
   obtain rfl := sinj h
   exact hQ _ _ ⟨g0, hfr, rfl⟩
 ·clear hx
  obtain ⟨g7, hfr, i3⟩ := hR
  refine E_ret ?_
  obtain rfl := sinj h
  exact end1 rfl rfl (show _ = .bool (o0) from i3) ⟨_, hfr, rfl⟩
def f105 (x0 : List BoxPick) (x1 : BoxPick → Option Bool) : Option (Int) :=
 jn (σ := Unit) (fun _ =>
  some ((-1 : Int))
  ) fun k18 =>
 lp (σ := Int) (fun k19 o0 =>
  bif (decide (o0 < ((x0).length : Int))) then
   jn (σ := Unit) (fun _ =>
    k19 ((w64 (o0 + (1 : Int))))
    ) fun k28 =>
   (idx x0 o0).bind fun j7 =>
   (x1 j7).bind fun m7 =>
   bif m7 then
    some (o0)
   else
    k28 ()
  else
   k18 ()
  ) big ((0 : Int))
theorem en105 : Enters Try.prog 105 := enters_of Try.func105 (by kernel_rfl) rfl
theorem wk105 {gI : Gh} {wI : World} {x0 : List BoxPick} {x1 : BoxPick → Option Bool} {up0 : Value} (rp0 : RV gI.m wI x0 up0) {up1 : Value} (rp1 : FnV1 Try.prog x1 up1 gI wI) {r : Int} (h : f105 x0 x1 = some r) : Fn Try.prog 105 #[up0, up1] gI wI (fun _ _ v => v = .int .i64 (r)) := by
 unfold f105 at h
 refine fn_of_E Try.func105 rfl (Nat.le_of_ble_eq_true rfl) fun g0 hm hfr => ?_
 have rp0 : RV g0.m wI x0 up0 := hm ▸ rp0
 obtain ⟨ff1, fa1, fc1, rfl, fen1, fcl1⟩ := rp1
 show E _ 19 none _ _ _ _ _
 refine E_seq (E_region (EL_at (.int .i64 (0)) rfl rfl ?_))
 refine EL_nil (thn_n (E_joinC h (fun (s : Unit) e w => ∃ (g : Gh) , Fr gI wI g w) (fun X18 k18 v7 h => ?_) ?_))
 ·refine E_seq (E_region (EL_mw up0 rfl rfl ?_))
  refine EL_p (.int .i64 ((x0).length : Int)) (P_len Try.underlying30 rfl rp0) rfl ?_
  refine EL_mw (.int .i64 (0)) rfl rfl ?_
  refine EL_nil (thn_n (E_block ?_))
  refine E_lp h (fun (s : Int) e w => ∃ (g : Gh) , Fr gI wI g w ∧ e 0 = up0 ∧ RV g.m w (x0 : List BoxPick) up0 ∧ e 1 = (.func (.func ff1) fa1 fc1) ∧ e 7 = .int .i64 (((x0).length : Int)) ∧ e 8 = .int .i64 (s)) ⟨g0, hfr, rfl, rp0, rfl, rfl, rfl⟩ (fun X19 k19 g8 => ?_)
  rintro o0 t8 a9 ⟨j6, hfr, t5, i3, x5, i6, u3⟩ h
  refine E_seq (E_region (EL_in (.bool ((decide (o0 < ((x0).length : Int))))) u3 i6 rfl rfl ?_))
  refine EL_nil (thn_n (E_seq ?_))
  rcases csome h with ⟨i5, h⟩ | ⟨i5, h⟩
  ·refine E_ct i5 rfl ?_
   refine E_skip (thn_n (E_joinC h (fun (s : Unit) e w => ∃ (g : Gh) , Fr gI wI g w ∧ e 0 = up0 ∧ RV g.m w (x0 : List BoxPick) up0 ∧ e 1 = (.func (.func ff1) fa1 fc1) ∧ e 7 = .int .i64 (((x0).length : Int)) ∧ e 8 = .int .i64 (o0)) (fun X28 k28 i8 h => ?_) ?_))
   ·refine E_block ?_
    refine E_seq (E_region (EL_mv u3 rfl ?_))
    refine EL_at (.int .i64 (o0)) rfl rfl ?_
    refine EL_nil (thn_n (E_seq (E_region (EL_mv x5 rfl ?_))))
    refine EL_mv t5 rfl ?_
    refine EL_mw (.int .i64 (o0)) rfl rfl ?_
    obtain ⟨j7, v6, h⟩ := bsome h
    refine EL_p (ePtr up0 o0 2) (P_indexAddr (α := BoxPick) Try.underlying30 Try.sizeOf83 rfl i3 rfl v6) rfl ?_
    have l8 := PT_idx i3 v6
    refine EL_do .plain rfl (D_load (g := j6) Try.isAgg83 Try.sizeOf83 rfl l8 fun m8 n8 => ?_)
    obtain ⟨m7, k8, h⟩ := bsome h
    refine EL_do .plain rfl (D_callv (g := j6) (vs := [m8]) rfl fen1 (.cons rfl .nil) (fcl1 _ _ hfr.ch _ _ _  n8 k8) fun q8 d9 k9 hs hr => ?_)
    have hfr := hfr.ext hs
    have i3 := i3.ext hs
    obtain rfl := RV_bool.1 hr
    refine EL_nil (thn_n ?_)
    rcases csome h with ⟨l5, h⟩ | ⟨l5, h⟩
    ·refine E_ct l5 rfl ?_
     refine E_seq (E_region (EL_mw (.int .i64 (o0)) rfl rfl ?_))
     refine EL_at (.int .i64 (o0)) rfl rfl ?_
     refine EL_nil (thn_n (E_ret (blk_r ?_)))
     refine thn_r ?_
     refine thn_r ?_
     refine blk_r ?_
     refine thn_r ?_
     obtain rfl := sinj h
     exact end1 rfl rfl (show _ = .int .i64 (o0) from rfl) ⟨_, hfr, rfl⟩
    ·refine E_cf l5 rfl ?_
     exact E_skip (blk_n (thn_n (i8 () _ _ ⟨q8, hfr, t5, i3, x5, i6, u3⟩ h)))
   ·rintro _ v8 l9 ⟨r8, hfr, x6, y6, a7, d7, i7⟩ h
    refine E_region (EL_in (.int .i64 ((w64 (o0 + (1 : Int))))) i7 rfl rfl rfl ?_)
    refine EL_mw (.int .i64 ((w64 (o0 + (1 : Int))))) rfl rfl ?_
    exact EL_nil (thn_n (g8 ((w64 (o0 + (1 : Int)))) _ _ ⟨r8, hfr, x6, y6, a7, d7, rfl⟩ h))
  ·refine E_cf i5 rfl ?_
   refine E_exit ?_
   refine thn_e ?_
   refine thn_e ?_
   refine blk_hit ?_
   exact thn_n (v7 () _ _ ⟨j6, hfr⟩ h)
 ·rintro _ x8 n9 ⟨u9, hfr⟩ h
  refine E_seq (E_region (EL_at (.int .i64 (-1)) rfl rfl ?_))
  refine EL_nil (thn_n (E_ret ?_))
  obtain rfl := sinj h
  exact end1 rfl rfl (show _ = .int .i64 (-1) from rfl) ⟨_, hfr, rfl⟩
def f106 (x0 : Int) (x1 : Int) : Option (Int) :=
 some ((w64 ((max64 x0 x1) - (min64 x0 x1))))
theorem en106 : Enters Try.prog 106 := enters_of Try.func106 (by kernel_rfl) rfl
theorem wk106 {gI : Gh} {wI : World} {x0 : Int} {x1 : Int}  {r : Int} (h : f106 x0 x1 = some r) : Fn Try.prog 106 #[.int .i64 (x0), .int .i64 (x1)] gI wI (fun _ _ v => v = .int .i64 (r)) := by
 unfold f106 at h
 refine fn_of_E Try.func106 rfl (Nat.le_of_ble_eq_true rfl) fun g0 hm hfr => ?_
 show E _ 12 none _ _ _ _ _
 refine E_seq (E_region (EL_at (.int .i64 (0)) rfl rfl ?_))
 refine EL_nil (thn_n (E_seq (E_region (EL_mw (.int .i64 (x0)) rfl rfl ?_))))
 refine EL_mw (.int .i64 (x1)) rfl rfl ?_
 refine EL_p (.int .i64 (max64 x0 x1)) (P_max rfl rfl) rfl ?_
 refine EL_mw (.int .i64 (x0)) rfl rfl ?_
 refine EL_mw (.int .i64 (x1)) rfl rfl ?_
 refine EL_p (.int .i64 (min64 x0 x1)) (P_min rfl rfl) rfl ?_
 refine EL_in (.int .i64 ((w64 ((max64 x0 x1) - (min64 x0 x1))))) rfl rfl rfl rfl ?_
 refine EL_at (.int .i64 ((w64 ((max64 x0 x1) - (min64 x0 x1))))) rfl rfl ?_
 refine EL_nil (thn_n (E_ret ?_))
 obtain rfl := sinj h
 exact end1 rfl rfl (show _ = .int .i64 ((w64 ((max64 x0 x1) - (min64 x0 x1)))) from rfl) ⟨_, hfr, rfl⟩
def f15 (x0 : BoxLoom) : Option (BoxLoom) :=
 (f50 x0).bind fun y5 =>
 some (y5)
theorem en15 : Enters Try.prog 15 := enters_of Try.func15 (by kernel_rfl) rfl
theorem wk15 {gI : Gh} {wI : World} {x0 : BoxLoom} {up0 : Value} (rp0 : RV gI.m wI x0 up0) {r : BoxLoom} (h : f15 x0 = some r) : Fn Try.prog 15 #[up0] gI wI (fun m w v => RV m w (r) v) := by
 unfold f15 at h
 refine fn_of_E Try.func15 rfl (Nat.le_of_ble_eq_true rfl) fun g0 hm hfr => ?_
 have rp0 : RV g0.m wI x0 up0 := hm ▸ rp0
 show E _ 5 none _ _ _ _ _
 refine E_seq (E_region (EL_do .plain rfl (D_box (g := g0) rfl rp0 fun g1 w1 p1 hs q1 => ?_)))
 have hfr := hfr.ext hs
 refine EL_do .plain rfl (D_allocOc (g := g1) 2002 (⟨[], [], []⟩ : BoxLoom) Try.zeroValue25 (fun m w => ⟨_, (rep_two rep_nil (rep_two rep_nil rep_nil)), rfl⟩) fun g2 w2 p2 hs b2 cb => ?_)
 have hfr := hfr.stp hs
 have q1 := q1.stp hs
 have o0 : OSF 2002 60200 0 g2 w2 3 25 ([] : List Int) p2 := cb.osf (by rfl)
 have i3 : OSF 2002 60201 1 g2 w2 3 25 ([] : List Int) p2 := cb.osf (by rfl)
 have u3 : OSF 2002 60202 2 g2 w2 87 25 ([] : List BoxShuttle) p2 := cb.osf (by rfl)
 clear cb
 refine EL_nil (thn_n (E_seq (E_region (EL_do .plain rfl (D_load (g := g2) Try.isAgg25 Try.sizeOf25 rfl q1 fun v3 r3 => ?_)))))
 obtain ⟨y5, hy5, h⟩ := bsome h
 refine EL_do .plain rfl (D_call (g := g2) (vs := [v3]) en50 (.cons rfl .nil) (wk50 r3 hy5) fun g4 w4_ v4 hs hr => ?_)
 have hfr := hfr.ext hs
 have b2 := b2.ext hs
 have r4 := hr
 refine EL_do .plain rfl (D_storeOc (g := g4) (v := v4) Try.sizeOf25 rfl b2 rfl r4 fun g6 w6 hs b6 cb => ?_)
 clear cb
 have hfr := hfr.stp hs
 refine EL_nil (thn_n (E_ret ?_))
 obtain rfl := sinj h
 obtain ⟨ad7, cv7, hp7, hl7, cr7⟩ := ob_read Try.isAgg25 Try.sizeOf25 b6
 exact endm_c rfl rfl ((show _ = p2 from rfl).trans hp7) hl7 ⟨_, hfr, cr7⟩
def f18 (x0 : BoxLoom) (x1 : BoxLoom) : Option (Bool) :=
 jn (σ := Unit) (fun _ =>
  jn (σ := Unit) (fun _ =>
   some (true)
   ) fun q8 =>
  lp (σ := Int) (fun r8 o0 =>
   jn (σ := Unit) (fun _ =>
    jn (σ := Unit) (fun _ =>
     r8 ((w64 (o0 + (1 : Int))))
     ) fun t8 =>
    (idx ((x0).Shuttles) o0).bind fun y186 =>
    (idx ((x1).Shuttles) o0).bind fun v7 =>
    bif (!(decide (y186 = v7))) then
     some (false)
    else
     t8 ()
    ) fun v8 =>
   bif (decide (o0 < (((x0).Shuttles).length : Int))) then
    v8 ()
   else
    q8 ()
   ) big ((0 : Int))
  ) fun vB =>
 Option.bind (α := Bool) (
  (f19 ((x0).Boxes) ((x1).Boxes)).bind fun v6 =>
  bif (!v6) then
   some (true)
  else
   (f19 ((x0).At) ((x1).At)).bind fun x5 =>
   bif (!x5) then
    some (true)
   else
    some (((((x0).Shuttles).length : Int) != (((x1).Shuttles).length : Int)))
  ) fun i5 =>
 bif i5 then
  some (false)
 else
  vB ()
theorem en18 : Enters Try.prog 18 := enters_of Try.func18 (by kernel_rfl) rfl
theorem wk18 {gI : Gh} {wI : World} {x0 : BoxLoom} {x1 : BoxLoom} {up0 : Value} (rp0 : RV gI.m wI x0 up0) {up1 : Value} (rp1 : RV gI.m wI x1 up1) {r : Bool} (h : f18 x0 x1 = some r) : Fn Try.prog 18 #[up0, up1] gI wI (fun _ _ v => v = .bool (r)) := by
 unfold f18 at h
 refine fn_of_E Try.func18 rfl (Nat.le_of_ble_eq_true rfl) fun g0 hm hfr => ?_
 have rp0 : RV g0.m wI x0 up0 := hm ▸ rp0
 have rp1 : RV g0.m wI x1 up1 := hm ▸ rp1
 show E _ 47 none _ _ _ _ _
 refine E_seq (E_region (EL_do .plain rfl (D_box (g := g0) rfl rp0 fun g1 w1 p1 hs q1 => ?_)))
 have hfr := hfr.ext hs
 have rp1 := rp1.ext hs
 refine EL_do .plain rfl (D_box (g := g1) rfl rp1 fun g2 w2 p2 hs q2 => ?_)
 have hfr := hfr.ext hs
 have q1 := q1.ext hs
 refine EL_at (.bool false) rfl rfl ?_
 refine EL_nil (thn_n (E_joinC h (fun (s : Unit) e w => ∃ (g : Gh) , Fr gI wI g w ∧ e 2 = p1 ∧ PT g.m w (x0 : BoxLoom) p1 ∧ e 3 = p2 ∧ PT g.m w (x1 : BoxLoom) p2) (fun X41 vB yB h => ?_) ?_))
 ·obtain ⟨i5, hx, h⟩ := bsome h
  refine E_join (fun e w => ∃ (g : Gh) , Fr gI wI g w ∧ e 2 = p1 ∧ PT g.m w (x0 : BoxLoom) p1 ∧ e 3 = p2 ∧ PT g.m w (x1 : BoxLoom) p2 ∧ e 28 = .bool (i5)) (fun Q' hQ => ?_) (fun iE vE hR => ?_)
  ·replace h := hx
   clear hx
   refine E_region (EL_p (fPtr p1 0) (P_fieldAddr at_25_0 rfl (PT.ptr q1)) rfl ?_)
   have gD := PT_field (part_BoxLoom_0).1 q1
   refine EL_do .plain rfl (D_load (g := g2) Try.isAgg22 Try.sizeOf22 rfl gD fun iD jD => ?_)
   refine EL_p (fPtr p2 0) (P_fieldAddr at_25_0 rfl (PT.ptr q2)) rfl ?_
   have q62 := PT_field (part_BoxLoom_0).1 q2
   refine EL_do .plain rfl (D_load (g := g2) Try.isAgg22 Try.sizeOf22 rfl q62 fun kD lD => ?_)
   obtain ⟨v6, zB, h⟩ := bsome h
   refine EL_do .plain rfl (D_call (g := g2) (vs := [iD, kD]) en19 (.cons rfl (.cons rfl .nil)) (wk19 jD lD zB) fun k8 jE xE hs hr => ?_)
   have hfr := hfr.ext hs
   have q1 := q1.ext hs
   have q2 := q2.ext hs
   subst hr
   refine EL_p (.bool (!v6)) (P_not rfl) rfl ?_
   refine EL_mw (.bool (!v6)) rfl rfl ?_
   rcases csome h with ⟨u3, h⟩ | ⟨u3, h⟩
   ·refine EL_s rfl rfl u3 rfl rfl ?_
    iterate 5 refine EL_s rfl rfl u3 rfl rfl ?_
    refine EL_p (.bool true) (P_pick (b := (!v6)) rfl (pick_t u3 rfl)) rfl ?_
    refine EL_dead 9 rfl ?_
    refine EL_nil ?_
    obtain rfl := sinj h
    exact hQ _ _ ⟨k8, hfr, rfl, q1, rfl, q2, rfl⟩
   ·refine EL_y (fPtr p1 1) (P_fieldAddr at_25_1 rfl (PT.ptr q1)) rfl rfl u3 rfl ?_
    have mD := PT_field (part_BoxLoom_1).1 q1
    refine EL_do (.yes2 rfl rfl u3) rfl (D_load (g := k8) Try.isAgg22 Try.sizeOf22 rfl mD fun nD oD => ?_)
    refine EL_y (fPtr p2 1) (P_fieldAddr at_25_1 rfl (PT.ptr q2)) rfl rfl u3 rfl ?_
    have sD := PT_field (part_BoxLoom_1).1 q2
    refine EL_do (.yes2 rfl rfl u3) rfl (D_load (g := k8) Try.isAgg22 Try.sizeOf22 rfl sD fun tD uD => ?_)
    obtain ⟨x5, aC, h⟩ := bsome h
    refine EL_do (.yes2 rfl rfl u3) rfl (D_call (g := k8) (vs := [nD, tD]) en19 (.cons rfl (.cons rfl .nil)) (wk19 oD uD aC) fun l8 kE yE hs hr => ?_)
    have hfr := hfr.ext hs
    have q1 := q1.ext hs
    have q2 := q2.ext hs
    subst hr
    refine EL_y (.bool (!x5)) (P_not rfl) rfl rfl u3 rfl ?_
    refine EL_p (.bool (!x5)) (P_pick (b := (!v6)) rfl (pick_f u3 rfl)) rfl ?_
    refine EL_mw (.bool (!x5)) rfl rfl ?_
    rcases csome h with ⟨i3, h⟩ | ⟨i3, h⟩
    ·refine EL_s rfl rfl i3 rfl rfl ?_
     iterate 6 refine EL_s rfl rfl i3 rfl rfl ?_
     refine EL_p (.bool true) (P_pick (b := (!x5)) rfl (pick_t i3 rfl)) rfl ?_
     refine EL_nil ?_
     obtain rfl := sinj h
     exact hQ _ _ ⟨l8, hfr, rfl, q1, rfl, q2, rfl⟩
    ·refine EL_y (fPtr p1 2) (P_fieldAddr at_25_2 rfl (PT.ptr q1)) rfl rfl i3 rfl ?_
     have vD := PT_field (part_BoxLoom_2).1 q1
     refine EL_do (.yes2 rfl rfl i3) rfl (D_load (g := l8) Try.isAgg23 Try.sizeOf23 rfl vD fun zE xD => ?_)
     refine EL_y (.int .i64 (((x0).Shuttles).length : Int)) (P_len Try.underlying23 rfl xD) rfl rfl i3 rfl ?_
     refine EL_y (fPtr p2 2) (P_fieldAddr at_25_2 rfl (PT.ptr q2)) rfl rfl i3 rfl ?_
     have yD := PT_field (part_BoxLoom_2).1 q2
     refine EL_do (.yes2 rfl rfl i3) rfl (D_load (g := l8) Try.isAgg23 Try.sizeOf23 rfl yD fun cF zD => ?_)
     refine EL_y (.int .i64 (((x1).Shuttles).length : Int)) (P_len Try.underlying23 rfl zD) rfl rfl i3 rfl ?_
     refine EL_y (.bool (((((x0).Shuttles).length : Int) != (((x1).Shuttles).length : Int)))) (P_int rfl rfl rfl) rfl rfl i3 rfl ?_
     refine EL_p (.bool (((((x0).Shuttles).length : Int) != (((x1).Shuttles).length : Int)))) (P_pick (b := (!x5)) rfl (pick_f i3 rfl)) rfl ?_
     refine EL_nil ?_
     obtain rfl := sinj h
     exact hQ _ _ ⟨l8, hfr, rfl, q1, rfl, q2, rfl⟩
  ·clear hx
   obtain ⟨aE, hfr, iA, jA, mA, pA, a7⟩ := hR
   rcases csome h with ⟨g8, h⟩ | ⟨g8, h⟩
   ·refine E_cond_true (Eq.trans (show ev _ _ = .bool (i5) from a7) (congrArg Value.bool g8)) ?_
    refine E_seq (E_region (EL_at (.bool false) rfl rfl ?_))
    refine EL_nil (thn_n (E_ret (thn_r ?_)))
    obtain rfl := sinj h
    exact end1 rfl rfl (show _ = .bool false from rfl) ⟨_, hfr, rfl⟩
   ·refine E_cond_false (Eq.trans (show ev _ _ = .bool (i5) from a7) (congrArg Value.bool g8)) ?_
    exact E_skip (thn_n (yB () _ _ ⟨aE, hfr, iA, jA, mA, pA⟩ h))
 ·rintro _ lE dF ⟨bE, hfr, qA, rA, yA, aB⟩ h
  refine E_joinC h (fun (s : Unit) e w => ∃ (g : Gh) , Fr gI wI g w) (fun X146 q8 dB h => ?_) ?_
  ·refine E_seq (E_region (EL_at (.int .i64 (0)) rfl rfl ?_))
   refine EL_nil (thn_n (E_block ?_))
   refine E_lp h (fun (s : Int) e w => ∃ (g : Gh) , Fr gI wI g w ∧ e 2 = p1 ∧ PT g.m w (x0 : BoxLoom) p1 ∧ e 3 = p2 ∧ PT g.m w (x1 : BoxLoom) p2 ∧ e 5 = .int .i64 (s)) ⟨bE, hfr, qA, rA, yA, aB, rfl⟩ (fun X147 r8 iB => ?_)
   rintro o0 cE mE ⟨i8, hfr, d7, i6, x8, a9, i7⟩ h
   refine E_joinC h (fun (s : Unit) e w => ∃ (g : Gh) , Fr gI wI g w ∧ e 2 = p1 ∧ PT g.m w (x0 : BoxLoom) p1 ∧ e 3 = p2 ∧ PT g.m w (x1 : BoxLoom) p2 ∧ e 5 = .int .i64 (o0)) (fun X152 v8 jB h => ?_) ?_
   ·refine E_seq (E_region (EL_mv i7 rfl ?_))
    refine EL_p (fPtr p1 2) (P_fieldAddr at_25_2 d7 (PT.ptr i6)) rfl ?_
    have cC := PT_field (part_BoxLoom_2).1 i6
    refine EL_do .plain rfl (D_load (g := i8) Try.isAgg23 Try.sizeOf23 rfl cC fun nE eC => ?_)
    refine EL_p (.int .i64 (((x0).Shuttles).length : Int)) (P_len Try.underlying23 rfl eC) rfl ?_
    refine EL_p (.bool ((decide (o0 < (((x0).Shuttles).length : Int))))) (P_int rfl rfl rfl) rfl ?_
    refine EL_nil (thn_n ?_)
    rcases csome h with ⟨x6, h⟩ | ⟨x6, h⟩
    ·refine E_ct x6 rfl ?_
     exact E_skip (thn_n (jB () _ _ ⟨i8, hfr, d7, i6, x8, a9, i7⟩ h))
    ·refine E_cf x6 rfl ?_
     refine E_exit ?_
     refine thn_e ?_
     refine thn_e ?_
     refine blk_hit ?_
     exact thn_n (dB () _ _ ⟨i8, hfr⟩ h)
   ·rintro _ dE oE ⟨iC, hfr, j7, l5, m7, t5, j6⟩ h
    refine E_joinC h (fun (s : Unit) e w => ∃ (g : Gh) , Fr gI wI g w ∧ e 2 = p1 ∧ PT g.m w (x0 : BoxLoom) p1 ∧ e 3 = p2 ∧ PT g.m w (x1 : BoxLoom) p2 ∧ e 5 = .int .i64 (o0)) (fun X183 t8 lB h => ?_) ?_
    ·refine E_block ?_
     refine E_seq ?_
     have lC := PT_field (part_BoxLoom_2).1 l5
     refine L_load (x := .tmp 36) Try.isAgg23 Try.sizeOf23 lC fun d9 k9 mB => ?_
     obtain ⟨y186, m8, h⟩ := bsome h
     have mC := PT_idx k9 m8
     refine L_load (x := .tmp 39) Try.isAgg87 Try.sizeOf87 mC fun qC rC nB => ?_
     have uC := PT_field (part_BoxLoom_2).1 t5
     refine L_load (x := .tmp 41) Try.isAgg23 Try.sizeOf23 uC fun l9 n9 oB => ?_
     obtain ⟨v7, n8, h⟩ := bsome h
     have vC := PT_idx n9 n8
     refine L_load (x := .tmp 44) Try.isAgg87 Try.sizeOf87 vC fun aD bD tB => ?_
     refine E_drawL (g := iC) (n := 11) [] [0, 1, 2, 3, 4, 5, 6, 7, 8, 9, 10] rfl mixed (by kernel_rfl) trivial ?_
     refine L_p (fPtr p1 2) rfl rfl (P_fieldAddr at_25_2 j7 (PT.ptr l5)) ?_
     refine L_ld (c := d9) rfl rfl .plain (fun _ _ h => h.ch) mB rfl ?_
     refine L_p (.int .i64 (o0)) rfl rfl (P_move j6) ?_
     refine L_p (ePtr d9 o0 5) rfl rfl (P_indexAddr (α := BoxShuttle) Try.underlying23 Try.sizeOf87 rfl k9 rfl m8) ?_
     refine L_ld (c := qC) rfl rfl .plain (fun _ _ h => h.ch) nB rfl ?_
     refine L_p (fPtr p2 2) rfl rfl (P_fieldAddr at_25_2 m7 (PT.ptr t5)) ?_
     refine L_ld (c := l9) rfl rfl .plain (fun _ _ h => h.ch) oB rfl ?_
     refine L_p (.int .i64 (o0)) rfl rfl (P_move j6) ?_
     refine L_p (ePtr l9 o0 5) rfl rfl (P_indexAddr (α := BoxShuttle) Try.underlying23 Try.sizeOf87 rfl n9 rfl n8) ?_
     refine L_ld (c := aD) rfl rfl .plain (fun _ _ h => h.ch) tB rfl ?_
     refine L_p (.bool ((!(decide (y186 = v7))))) rfl rfl (P_neD eqd_87 rfl rfl eg_87 rfl rfl rC bD) ?_
     refine L_nl fun cD rE hs => ?_
     have hfr := hfr.ext hs
     have l5 := l5.ext hs
     have t5 := t5.ext hs
     clear hs
     refine EL_nil (thn_n ?_)
     rcases csome h with ⟨y6, h⟩ | ⟨y6, h⟩
     ·refine E_ct y6 rfl ?_
      refine E_seq (E_region (EL_at (.bool false) rfl rfl ?_))
      refine EL_nil (thn_n (E_ret (blk_r ?_)))
      refine thn_r ?_
      refine thn_r ?_
      refine blk_r ?_
      refine thn_r ?_
      obtain rfl := sinj h
      exact end1 rfl rfl (show _ = .bool false from rfl) ⟨_, hfr, rfl⟩
     ·refine E_cf y6 rfl ?_
      exact E_skip (blk_n (thn_n (lB () _ _ ⟨cD, hfr, j7, l5, m7, t5, j6⟩ h)))
    ·rintro _ eE sE ⟨eD, hfr, u9, y9, z9, bA, gA⟩ h
     refine E_region (EL_mv gA rfl ?_)
     refine EL_in (.int .i64 ((w64 (o0 + (1 : Int))))) rfl rfl rfl rfl ?_
     refine EL_at (.int .i64 ((w64 (o0 + (1 : Int))))) rfl rfl ?_
     exact EL_nil (thn_n (iB ((w64 (o0 + (1 : Int)))) _ _ ⟨eD, hfr, u9, y9, z9, bA, rfl⟩ h))
  ·rintro _ gE tE ⟨uE, hfr⟩ h
   refine E_seq (E_region (EL_at (.bool true) rfl rfl ?_))
   refine EL_nil (thn_n (E_ret ?_))
   obtain rfl := sinj h
   exact end1 rfl rfl (show _ = .bool true from rfl) ⟨_, hfr, rfl⟩
def f20 (x0 : BoxLoom) : Option (Int) :=
 jn (σ := Unit) (fun _ =>
  jn (σ := Unit) (fun _ =>
   jn (σ := Unit) (fun _ =>
    jn (σ := Unit) (fun _ =>
     jn (σ := Unit) (fun _ =>
      jn (σ := Unit) (fun _ =>
       some ((0 : Int))
       ) fun pF =>
      lp (σ := Int) (fun qF u3 =>
       jn (σ := Unit) (fun _ =>
        jn (σ := Unit) (fun _ =>
         qF ((w64 (u3 + (1 : Int))))
         ) fun rF =>
        lp (σ := Int) (fun sF l5 =>
         jn (σ := Unit) (fun _ =>
          jn (σ := Unit) (fun _ =>
           sF ((w64 (l5 + (1 : Int))))
           ) fun tF =>
          Option.bind (α := Bool) (
           (idx ((x0).Shuttles) u3).bind fun l8 =>
           (idx ((x0).Shuttles) l5).bind fun m8 =>
           bif ((l8).Side == (m8).Side) then
            (idx ((x0).Shuttles) u3).bind fun mA =>
            (idx ((x0).Shuttles) l5).bind fun pA =>
            some (((mA).Box == (pA).Box))
           else
            some (false)
           ) fun n8 =>
          bif n8 then
           some ((6 : Int))
          else
           tF ()
          ) fun uF =>
         bif (decide (l5 < u3)) then
          uF ()
         else
          rF ()
         ) big ((0 : Int))
        ) fun vF =>
       bif (decide (u3 < (((x0).Shuttles).length : Int))) then
        vF ()
       else
        pF ()
       ) big ((0 : Int))
      ) fun xF =>
     bif ((((x0).Shuttles).length : Int) == (0 : Int)) then
      some ((2 : Int))
     else
      xF ()
     ) fun yF =>
    lp (σ := Int) (fun zF i7 =>
     jn (σ := Unit) (fun _ =>
      jn (σ := Unit) (fun _ =>
       zF ((w64 (i7 + (1 : Int))))
       ) fun aG =>
      (idx ((x0).Shuttles) i7).bind fun o0 =>
      Option.bind (α := Bool) (
       (f59 ((o0).Colour) ((0 : Int)) ((9 : Int))).bind fun x5 =>
       bif (!x5) then
        some (true)
       else
        (f59 ((o0).Side) ((0 : Int)) ((1 : Int))).bind fun i6 =>
        bif (!i6) then
         some (true)
        else
         (idx ((x0).Boxes) (o0).Side).bind fun k8 =>
         (f59 ((o0).Box) ((0 : Int)) ((w64 (k8 - (1 : Int))))).bind fun d7 =>
         bif (!d7) then
          some (true)
         else
          (f59 (((o0).Yarn).Low) ((0 : Int)) (((o0).Yarn).High)).bind fun v7 =>
          bif (!v7) then
           some (true)
          else
           some ((decide (((o0).Yarn).High > (1000 : Int))))
       ) fun v8 =>
      bif v8 then
       some ((2 : Int))
      else
       aG ()
      ) fun bG =>
     bif (decide (i7 < (((x0).Shuttles).length : Int))) then
      bG ()
     else
      yF ()
     ) big ((0 : Int))
    ) fun sH =>
   bif (decide ((((x0).Shuttles).length : Int) > (6 : Int))) then
    some ((5 : Int))
   else
    sH ()
   ) fun tH =>
  lp (σ := Int) (fun uH j6 =>
   jn (σ := Unit) (fun _ =>
    jn (σ := Unit) (fun _ =>
     uH ((w64 (j6 + (1 : Int))))
     ) fun xH =>
    Option.bind (α := Bool) (
     (idx ((x0).Boxes) j6).bind fun dB =>
     (f59 dB ((1 : Int)) ((4 : Int))).bind fun r8 =>
     bif (!r8) then
      some (true)
     else
      (idx ((x0).At) j6).bind fun sD =>
      (idx ((x0).Boxes) j6).bind fun yB =>
      (f59 sD ((0 : Int)) ((w64 (yB - (1 : Int))))).bind fun iB =>
      some ((!iB))
     ) fun x8 =>
    bif x8 then
     some ((3 : Int))
    else
     xH ()
    ) fun yH =>
   bif (decide (j6 < (2 : Int))) then
    yH ()
   else
    tH ()
   ) big ((0 : Int))
  ) fun pM =>
 Option.bind (α := Bool) (
  bif ((((x0).Boxes).length : Int) != (2 : Int)) then
   some (true)
  else
   some (((((x0).At).length : Int) != (2 : Int)))
  ) fun u9 =>
 bif u9 then
  some ((4 : Int))
 else
  pM ()
theorem en20 : Enters Try.prog 20 := enters_of Try.func20 (by kernel_rfl) rfl
theorem wk20 {gI : Gh} {wI : World} {x0 : BoxLoom} {up0 : Value} (rp0 : RV gI.m wI x0 up0) {r : Int} (h : f20 x0 = some r) : Fn Try.prog 20 #[up0] gI wI (fun _ _ v => v = .int .i64 (r)) := by
 unfold f20 at h
 refine fn_of_E Try.func20 rfl (Nat.le_of_ble_eq_true rfl) fun g0 hm hfr => ?_
 have rp0 : RV g0.m wI x0 up0 := hm ▸ rp0
 show E _ 143 none _ _ _ _ _
 refine E_seq (E_region (EL_do .plain rfl (D_box (g := g0) rfl rp0 fun g1 w1 p1 hs q1 => ?_)))
 have hfr := hfr.ext hs
 refine EL_at (.int .i64 (0)) rfl rfl ?_
 refine EL_nil (thn_n (E_joinC h (fun (s : Unit) e w => ∃ (g : Gh) , Fr gI wI g w ∧ e 1 = p1 ∧ PT g.m w (x0 : BoxLoom) p1) (fun X14 pM qM h => ?_) ?_))
 ·obtain ⟨u9, hx, h⟩ := bsome h
  refine E_join (fun e w => ∃ (g : Gh) , Fr gI wI g w ∧ e 1 = p1 ∧ PT g.m w (x0 : BoxLoom) p1 ∧ e 17 = .bool (u9)) (fun Q' hQ => ?_) (fun lQ bR hR => ?_)
  ·replace h := hx
   clear hx
   refine E_region (EL_p (fPtr p1 0) (P_fieldAddr at_25_0 rfl (PT.ptr q1)) rfl ?_)
   have mN := PT_field (part_BoxLoom_0).1 q1
   refine EL_do .plain rfl (D_load (g := g1) Try.isAgg22 Try.sizeOf22 rfl mN fun cR nN => ?_)
   refine EL_p (.int .i64 (((x0).Boxes).length : Int)) (P_len Try.underlying22 rfl nN) rfl ?_
   refine EL_in (.bool (((((x0).Boxes).length : Int) != (2 : Int)))) rfl rfl rfl rfl ?_
   refine EL_mw (.bool (((((x0).Boxes).length : Int) != (2 : Int)))) rfl rfl ?_
   rcases csome h with ⟨n9, h⟩ | ⟨n9, h⟩
   ·refine EL_s rfl rfl n9 rfl rfl ?_
    iterate 3 refine EL_s rfl rfl n9 rfl rfl ?_
    refine EL_p (.bool true) (P_pick (b := ((((x0).Boxes).length : Int) != (2 : Int))) rfl (pick_t n9 rfl)) rfl ?_
    refine EL_nil ?_
    obtain rfl := sinj h
    exact hQ _ _ ⟨g1, hfr, rfl, q1, rfl⟩
   ·refine EL_y (fPtr p1 1) (P_fieldAddr at_25_1 rfl (PT.ptr q1)) rfl rfl n9 rfl ?_
    have oN := PT_field (part_BoxLoom_1).1 q1
    refine EL_do (.yes2 rfl rfl n9) rfl (D_load (g := g1) Try.isAgg22 Try.sizeOf22 rfl oN fun dR pN => ?_)
    refine EL_y (.int .i64 (((x0).At).length : Int)) (P_len Try.underlying22 rfl pN) rfl rfl n9 rfl ?_
    refine EL_y (.bool (((((x0).At).length : Int) != (2 : Int)))) (P_int rfl rfl rfl) rfl rfl n9 rfl ?_
    refine EL_p (.bool (((((x0).At).length : Int) != (2 : Int)))) (P_pick (b := ((((x0).Boxes).length : Int) != (2 : Int))) rfl (pick_f n9 rfl)) rfl ?_
    refine EL_nil ?_
    obtain rfl := sinj h
    exact hQ _ _ ⟨g1, hfr, rfl, q1, rfl⟩
  ·clear hx
   obtain ⟨qN, hfr, nJ, oJ, mE⟩ := hR
   rcases csome h with ⟨nF, h⟩ | ⟨nF, h⟩
   ·refine E_cond_true (Eq.trans (show ev _ _ = .bool (u9) from mE) (congrArg Value.bool nF)) ?_
    refine E_seq (E_region (EL_at (.int .i64 (4)) rfl rfl ?_))
    refine EL_nil (thn_n (E_ret (thn_r ?_)))
    obtain rfl := sinj h
    exact end1 rfl rfl (show _ = .int .i64 (4) from rfl) ⟨_, hfr, rfl⟩
   ·refine E_cond_false (Eq.trans (show ev _ _ = .bool (u9) from mE) (congrArg Value.bool nF)) ?_
    exact E_skip (thn_n (qM () _ _ ⟨qN, hfr, nJ, oJ⟩ h))
 ·rintro _ mQ eR ⟨rN, hfr, pJ, qJ⟩ h
  refine E_joinC h (fun (s : Unit) e w => ∃ (g : Gh) , Fr gI wI g w ∧ e 1 = p1 ∧ PT g.m w (x0 : BoxLoom) p1) (fun X321 tH rJ h => ?_) ?_
  ·refine E_seq (E_region (EL_at (.int .i64 (0)) rfl rfl ?_))
   refine EL_nil (thn_n (E_block ?_))
   refine E_lp h (fun (s : Int) e w => ∃ (g : Gh) , Fr gI wI g w ∧ e 1 = p1 ∧ PT g.m w (x0 : BoxLoom) p1 ∧ e 3 = .int .i64 (s)) ⟨rN, hfr, pJ, qJ, rfl⟩ (fun X322 uH sJ => ?_)
   rintro j6 jO nQ ⟨zH, hfr, nE, oE, rE⟩ h
   refine E_joinC h (fun (s : Unit) e w => ∃ (g : Gh) , Fr gI wI g w ∧ e 1 = p1 ∧ PT g.m w (x0 : BoxLoom) p1 ∧ e 3 = .int .i64 (j6)) (fun X325 yH tJ h => ?_) ?_
   ·refine E_seq (E_region (EL_mv rE rfl ?_))
    refine EL_in (.bool ((decide (j6 < (2 : Int))))) rfl rfl rfl rfl ?_
    refine EL_nil (thn_n ?_)
    rcases csome h with ⟨tD, h⟩ | ⟨tD, h⟩
    ·refine E_ct tD rfl ?_
     exact E_skip (thn_n (tJ () _ _ ⟨zH, hfr, nE, oE, rE⟩ h))
    ·refine E_cf tD rfl ?_
     refine E_exit ?_
     refine thn_e ?_
     refine thn_e ?_
     refine blk_hit ?_
     exact thn_n (rJ () _ _ ⟨zH, hfr, nE, oE⟩ h)
   ·rintro _ kO oQ ⟨aI, hfr, a9, m7, d9⟩ h
    refine E_joinC h (fun (s : Unit) e w => ∃ (g : Gh) , Fr gI wI g w ∧ e 1 = p1 ∧ PT g.m w (x0 : BoxLoom) p1 ∧ e 3 = .int .i64 (j6)) (fun X470 xH uJ h => ?_) ?_
    ·refine E_block ?_
     obtain ⟨x8, hx, h⟩ := bsome h
     refine E_join (fun e w => ∃ (g : Gh) , Fr gI wI g w ∧ e 1 = p1 ∧ PT g.m w (x0 : BoxLoom) p1 ∧ e 3 = .int .i64 (j6) ∧ e 43 = .bool (x8)) (fun Q' hQ => ?_) (fun lO pQ hR => ?_)
     ·replace h := hx
      clear hx
      have rM := PT_field (part_BoxLoom_0).1 m7
      refine L_load (x := .tmp 22) Try.isAgg22 Try.sizeOf22 rM fun uD oF cG => ?_
      obtain ⟨dB, vD, h⟩ := bsome h
      have sM := PT_idx oF vD
      refine L_load (x := .tmp 25) Try.isAgg3 Try.sizeOf3 sM fun qQ tM dG => ?_
      obtain rfl := RV_int.1 tM
      obtain ⟨r8, eG, h⟩ := bsome h
      rcases csome h with ⟨j7, h⟩ | ⟨j7, h⟩
      ·refine E_drawL (g := aI) (n := 22) [(5, (fun v g w => v = .bool (r8)))] [0, 1, 2, 3, 4, 5, 6, 7, 8, 9, 10, 11, 12, 13, 14, 15, 16, 17, 18, 19, 20, 21] rfl mixed (by kernel_rfl) (⟨fun _ => up_eq _, trivial⟩) ?_
       refine L_p (fPtr p1 0) rfl rfl (P_fieldAddr at_25_0 a9 (PT.ptr m7)) ?_
       refine L_ld (c := uD) rfl rfl .plain (fun _ _ h => h.ch) cG rfl ?_
       refine L_p (.int .i64 (j6)) rfl rfl (P_move d9) ?_
       refine L_p (ePtr uD j6 1) rfl rfl (P_indexAddr (α := Int) Try.underlying22 Try.sizeOf3 rfl oF rfl vD) ?_
       refine L_ld (c := .int .i64 (dB)) rfl rfl .plain (fun _ _ h => h.ch) dG rfl ?_
       refine L_do (φ := fun v g w => v = .bool (r8)) rfl rfl .plain (fun g w hd => D_call (g := g) (vs := [.int .i64 (dB), .int .i64 (1), .int .i64 (4)]) en59 (.cons rfl (.cons rfl (.cons rfl .nil))) (wk59  eG) fun g' w' v hs hr => ⟨g', hs, hr⟩) (fun uM hv => ?_)
       obtain ⟨_, _, _, rfl⟩ := hv
       refine L_p (.bool (!r8)) rfl rfl (P_not rfl) ?_
       refine L_p (.bool (!r8)) rfl rfl (P_move rfl) ?_
       iterate 13 refine L_s rfl rfl rfl j7 rfl ?_
       refine L_p (.bool true) rfl rfl (P_pick (b := (!r8)) rfl (pick_t j7 rfl)) ?_
       refine L_nl fun vM rQ hs => ?_
       have hfr := hfr.ext hs
       have m7 := m7.ext hs
       clear hs
       refine EL_nil ?_
       obtain rfl := sinj h
       exact hQ _ _ ⟨vM, hfr, a9, m7, d9, rfl⟩
      ·have xM := PT_field (part_BoxLoom_1).1 m7
       refine L_load (x := .tmp 30) Try.isAgg22 Try.sizeOf22 xM fun bI cI vJ => ?_
       obtain ⟨sD, gG, h⟩ := bsome h
       have yM := PT_idx cI gG
       refine L_load (x := .tmp 33) Try.isAgg3 Try.sizeOf3 yM fun sQ zM xJ => ?_
       obtain rfl := RV_int.1 zM
       have bN := PT_field (part_BoxLoom_0).1 m7
       refine L_load (x := .tmp 35) Try.isAgg22 Try.sizeOf22 bN fun dI iI yJ => ?_
       obtain ⟨yB, hG, h⟩ := bsome h
       have cN := PT_idx iI hG
       refine L_load (x := .tmp 38) Try.isAgg3 Try.sizeOf3 cN fun tQ dN zJ => ?_
       obtain rfl := RV_int.1 dN
       obtain ⟨iB, aK, h⟩ := bsome h
       refine E_drawL (g := aI) (n := 22) [(5, (fun v g w => v = .bool (r8))), (19, (fun v g w => v = .bool (iB)))] [0, 1, 2, 3, 4, 5, 6, 7, 8, 9, 10, 11, 12, 13, 14, 15, 16, 17, 18, 19, 20, 21] rfl mixed (by kernel_rfl) (⟨fun _ => up_eq _, fun _ => up_eq _, trivial⟩) ?_
       refine L_p (fPtr p1 0) rfl rfl (P_fieldAddr at_25_0 a9 (PT.ptr m7)) ?_
       refine L_ld (c := uD) rfl rfl .plain (fun _ _ h => h.ch) cG rfl ?_
       refine L_p (.int .i64 (j6)) rfl rfl (P_move d9) ?_
       refine L_p (ePtr uD j6 1) rfl rfl (P_indexAddr (α := Int) Try.underlying22 Try.sizeOf3 rfl oF rfl vD) ?_
       refine L_ld (c := .int .i64 (dB)) rfl rfl .plain (fun _ _ h => h.ch) dG rfl ?_
       refine L_do (φ := fun v g w => v = .bool (r8)) rfl rfl .plain (fun g w hd => D_call (g := g) (vs := [.int .i64 (dB), .int .i64 (1), .int .i64 (4)]) en59 (.cons rfl (.cons rfl (.cons rfl .nil))) (wk59  eG) fun g' w' v hs hr => ⟨g', hs, hr⟩) (fun uM hv => ?_)
       obtain ⟨_, _, _, rfl⟩ := hv
       refine L_p (.bool (!r8)) rfl rfl (P_not rfl) ?_
       refine L_p (.bool (!r8)) rfl rfl (P_move rfl) ?_
       refine L_y (fPtr p1 1) rfl rfl rfl rfl j7 (P_fieldAddr at_25_1 a9 (PT.ptr m7)) ?_
       refine L_ld (c := bI) rfl rfl (.yes2 rfl rfl j7) (fun _ _ h => h.ch) vJ rfl ?_
       refine L_y (.int .i64 (j6)) rfl rfl rfl rfl j7 (P_move d9) ?_
       refine L_y (ePtr bI j6 1) rfl rfl rfl rfl j7 (P_indexAddr (α := Int) Try.underlying22 Try.sizeOf3 rfl cI rfl gG) ?_
       refine L_ld (c := .int .i64 (sD)) rfl rfl (.yes2 rfl rfl j7) (fun _ _ h => h.ch) xJ rfl ?_
       refine L_y (fPtr p1 0) rfl rfl rfl rfl j7 (P_fieldAddr at_25_0 a9 (PT.ptr m7)) ?_
       refine L_ld (c := dI) rfl rfl (.yes2 rfl rfl j7) (fun _ _ h => h.ch) yJ rfl ?_
       refine L_y (.int .i64 (j6)) rfl rfl rfl rfl j7 (P_move d9) ?_
       refine L_y (ePtr dI j6 1) rfl rfl rfl rfl j7 (P_indexAddr (α := Int) Try.underlying22 Try.sizeOf3 rfl iI rfl hG) ?_
       refine L_ld (c := .int .i64 (yB)) rfl rfl (.yes2 rfl rfl j7) (fun _ _ h => h.ch) zJ rfl ?_
       refine L_y (.int .i64 ((w64 (yB - (1 : Int))))) rfl rfl rfl rfl j7 (P_int rfl rfl rfl) ?_
       refine L_do (φ := fun v g w => v = .bool (iB)) rfl rfl (.yes2 rfl rfl j7) (fun g w hd => D_call (g := g) (vs := [.int .i64 (sD), .int .i64 (0), .int .i64 ((w64 (yB - (1 : Int))))]) en59 (.cons rfl (.cons rfl (.cons rfl .nil))) (wk59  aK) fun g' w' v hs hr => ⟨g', hs, hr⟩) (fun uQ hv => ?_)
       obtain ⟨_, _, _, rfl⟩ := hv
       refine L_y (.bool (!iB)) rfl rfl rfl rfl j7 (P_not rfl) ?_
       refine L_p (.bool (!iB)) rfl rfl (P_pick (b := (!r8)) rfl (pick_f j7 rfl)) ?_
       refine L_nl fun eN vQ hs => ?_
       have hfr := hfr.ext hs
       have m7 := m7.ext hs
       clear hs
       refine EL_nil ?_
       obtain rfl := sinj h
       exact hQ _ _ ⟨eN, hfr, a9, m7, d9, rfl⟩
     ·clear hx
      obtain ⟨gN, hfr, jI, kI, lI, gD⟩ := hR
      rcases csome h with ⟨xD, h⟩ | ⟨xD, h⟩
      ·refine E_cond_true (Eq.trans (show ev _ _ = .bool (x8) from gD) (congrArg Value.bool xD)) ?_
       refine E_seq (E_region (EL_at (.int .i64 (3)) rfl rfl ?_))
       refine EL_nil (thn_n (E_ret (blk_r ?_)))
       refine thn_r ?_
       refine thn_r ?_
       refine blk_r ?_
       refine thn_r ?_
       obtain rfl := sinj h
       exact end1 rfl rfl (show _ = .int .i64 (3) from rfl) ⟨_, hfr, rfl⟩
      ·refine E_cond_false (Eq.trans (show ev _ _ = .bool (x8) from gD) (congrArg Value.bool xD)) ?_
       exact E_skip (blk_n (thn_n (uJ () _ _ ⟨gN, hfr, jI, kI, lI⟩ h)))
    ·rintro _ mO xQ ⟨iN, hfr, mI, nI, pI⟩ h
     refine E_region (EL_mv pI rfl ?_)
     refine EL_in (.int .i64 ((w64 (j6 + (1 : Int))))) rfl rfl rfl rfl ?_
     refine EL_at (.int .i64 ((w64 (j6 + (1 : Int))))) rfl rfl ?_
     exact EL_nil (thn_n (sJ ((w64 (j6 + (1 : Int)))) _ _ ⟨iN, hfr, mI, nI, rfl⟩ h))
  ·rintro _ nO yQ ⟨qI, hfr, sE, zB⟩ h
   refine E_joinC h (fun (s : Unit) e w => ∃ (g : Gh) , Fr gI wI g w ∧ e 1 = p1 ∧ PT g.m w (x0 : BoxLoom) p1) (fun X618 sH bK h => ?_) ?_
   ·refine E_seq (E_region (EL_p (fPtr p1 2) (P_fieldAddr at_25_2 sE (PT.ptr zB)) rfl ?_))
    have jN := PT_field (part_BoxLoom_2).1 zB
    refine EL_do .plain rfl (D_load (g := qI) Try.isAgg23 Try.sizeOf23 rfl jN fun zQ kN => ?_)
    refine EL_p (.int .i64 (((x0).Shuttles).length : Int)) (P_len Try.underlying23 rfl kN) rfl ?_
    refine EL_p (.bool ((decide ((((x0).Shuttles).length : Int) > (6 : Int))))) (P_int rfl rfl rfl) rfl ?_
    refine EL_nil (thn_n ?_)
    rcases csome h with ⟨yD, h⟩ | ⟨yD, h⟩
    ·refine E_ct yD rfl ?_
     refine E_seq (E_region (EL_at (.int .i64 (5)) rfl rfl ?_))
     refine EL_nil (thn_n (E_ret (thn_r ?_)))
     obtain rfl := sinj h
     exact end1 rfl rfl (show _ = .int .i64 (5) from rfl) ⟨_, hfr, rfl⟩
    ·refine E_cf yD rfl ?_
     exact E_skip (thn_n (bK () _ _ ⟨qI, hfr, sE, zB⟩ h))
   ·rintro _ oO aR ⟨lN, hfr, rI, sI⟩ h
    refine E_joinC h (fun (s : Unit) e w => ∃ (g : Gh) , Fr gI wI g w ∧ e 1 = p1 ∧ PT g.m w (x0 : BoxLoom) p1) (fun X1749 yF tI h => ?_) ?_
    ·refine E_seq (E_region (EL_at (.int .i64 (0)) rfl rfl ?_))
     refine EL_nil (thn_n (E_block ?_))
     refine E_lp h (fun (s : Int) e w => ∃ (g : Gh) , Fr gI wI g w ∧ e 1 = p1 ∧ PT g.m w (x0 : BoxLoom) p1 ∧ e 4 = .int .i64 (s)) ⟨lN, hfr, rI, sI, rfl⟩ (fun X1750 zF uI => ?_)
     rintro i7 sN pO ⟨zD, hfr, jB, bA, iD⟩ h
     refine E_joinC h (fun (s : Unit) e w => ∃ (g : Gh) , Fr gI wI g w ∧ e 1 = p1 ∧ PT g.m w (x0 : BoxLoom) p1 ∧ e 4 = .int .i64 (i7)) (fun X1755 bG vI h => ?_) ?_
     ·refine E_seq (E_region (EL_mv iD rfl ?_))
      refine EL_p (fPtr p1 2) (P_fieldAddr at_25_2 jB (PT.ptr bA)) rfl ?_
      have cK := PT_field (part_BoxLoom_2).1 bA
      refine EL_do .plain rfl (D_load (g := zD) Try.isAgg23 Try.sizeOf23 rfl cK fun qO dK => ?_)
      refine EL_p (.int .i64 (((x0).Shuttles).length : Int)) (P_len Try.underlying23 rfl dK) rfl ?_
      refine EL_p (.bool ((decide (i7 < (((x0).Shuttles).length : Int))))) (P_int rfl rfl rfl) rfl ?_
      refine EL_nil (thn_n ?_)
      rcases csome h with ⟨aC, h⟩ | ⟨aC, h⟩
      ·refine E_ct aC rfl ?_
       exact E_skip (thn_n (vI () _ _ ⟨zD, hfr, jB, bA, iD⟩ h))
      ·refine E_cf aC rfl ?_
       refine E_exit ?_
       refine thn_e ?_
       refine thn_e ?_
       refine blk_hit ?_
       exact thn_n (tI () _ _ ⟨zD, hfr, jB, bA⟩ h)
     ·rintro _ tN rO ⟨aE, hfr, g8, i5, t8⟩ h
      refine E_joinC h (fun (s : Unit) e w => ∃ (g : Gh) , Fr gI wI g w ∧ e 1 = p1 ∧ PT g.m w (x0 : BoxLoom) p1 ∧ e 4 = .int .i64 (i7)) (fun X2317 aG xI h => ?_) ?_
      ·refine E_block ?_
       refine E_seq (E_region (EL_p (fPtr p1 2) (P_fieldAddr at_25_2 g8 (PT.ptr i5)) rfl ?_))
       have eK := PT_field (part_BoxLoom_2).1 i5
       refine EL_do .plain rfl (D_load (g := aE) Try.isAgg23 Try.sizeOf23 rfl eK fun lK iG => ?_)
       refine EL_mv t8 rfl ?_
       obtain ⟨o0, tE, h⟩ := bsome h
       refine EL_p (ePtr lK i7 5) (P_indexAddr (α := BoxShuttle) Try.underlying23 Try.sizeOf87 rfl iG rfl tE) rfl ?_
       have mK := PT_idx iG tE
       refine EL_do .plain rfl (D_load (g := aE) Try.isAgg87 Try.sizeOf87 rfl mK fun nK bE => ?_)
       refine EL_do .plain rfl (D_allocOc (g := aE) 2005 (⟨0, 0, 0, ⟨0, 0⟩⟩ : BoxShuttle) Try.zeroValue87 (fun m w => ⟨_, (rep_two rep_int (rep_two rep_int (rep_two rep_int (rep_two rep_int rep_int)))), rfl⟩) fun oK sO x6 hs b2323 cb => ?_)
       have hfr := hfr.stp hs
       have i5 := i5.stp hs
       have bE := bE.stp hs
       clear cb
       refine EL_do .plain rfl (D_storeOc (g := oK) (v := nK) Try.sizeOf87 rfl b2323 rfl bE fun qA tO hs b2324 cb => ?_)
       clear cb
       have hfr := hfr.stp hs
       have i5 := i5.stp hs
       refine EL_nil (thn_n ?_)
       obtain ⟨v8, hx, h⟩ := bsome h
       refine E_join (fun e w => ∃ (g : Gh) , Fr gI wI g w ∧ e 1 = p1 ∧ PT g.m w (x0 : BoxLoom) p1 ∧ e 4 = .int .i64 (i7) ∧ e 98 = .bool (v8)) (fun Q' hQ => ?_) (fun uN uO hR => ?_)
       ·replace h := hx
        clear hx
        refine L_loadO (x := .tmp 60) part_BoxShuttle_0.1 Try.isAgg3 Try.sizeOf3 b2324 fun vO pK y9 => ?_
        obtain rfl := RV_int.1 pK
        obtain ⟨x5, z9, h⟩ := bsome h
        rcases csome h with ⟨t5, h⟩ | ⟨t5, h⟩
        ·refine E_drawL (g := qA) (n := 39) [(2, (fun v g w => v = .bool (x5)))] [0, 1, 2, 3, 4, 5, 6, 7, 8, 9, 10, 11, 12, 13, 14, 15, 16, 17, 18, 19, 20, 21, 22, 23, 24, 25, 26, 27, 28, 29, 30, 31, 32, 33, 34, 35, 36, 37, 38] rfl mixed (by kernel_rfl) (⟨fun _ => up_eq _, trivial⟩) ?_
         refine L_p (fPtr x6 0) rfl rfl (P_fieldAddr at_87_0 rfl (OB.ptr b2324)) ?_
         refine L_ld (c := .int .i64 ((o0).Colour)) rfl rfl .plain (fun _ _ h => ⟨h.ch, fun b hb _ => h.below.block b hb⟩) y9 rfl ?_
         refine L_do (φ := fun v g w => v = .bool (x5)) rfl rfl .plain (fun g w hd => D_call (g := g) (vs := [.int .i64 ((o0).Colour), .int .i64 (0), .int .i64 (9)]) en59 (.cons rfl (.cons rfl (.cons rfl .nil))) (wk59  z9) fun g' w' v hs hr => ⟨g', hs, hr⟩) (fun tB hv => ?_)
         obtain ⟨_, _, _, rfl⟩ := hv
         refine L_p (.bool (!x5)) rfl rfl (P_not rfl) ?_
         refine L_p (.bool (!x5)) rfl rfl (P_move rfl) ?_
         iterate 4 refine L_s rfl rfl rfl t5 rfl ?_
         refine L_p (.bool true) rfl rfl (P_pick (b := (!x5)) rfl (pick_t t5 rfl)) ?_
         refine L_dead (fun _ => rfl) 29 rfl ?_
         refine L_nl fun qK xO hs => ?_
         have hfr := hfr.ext hs
         have i5 := i5.ext hs
         clear hs
         refine EL_nil ?_
         obtain rfl := sinj h
         exact hQ _ _ ⟨qK, hfr, g8, i5, t8, rfl⟩
        ·refine L_loadO (x := .tmp 65) part_BoxShuttle_1.1 Try.isAgg3 Try.sizeOf3 b2324 fun yO sK rA => ?_
         obtain rfl := RV_int.1 sK
         obtain ⟨i6, yA, h⟩ := bsome h
         rcases csome h with ⟨i3, h⟩ | ⟨i3, h⟩
         ·refine E_drawL (g := qA) (n := 39) [(2, (fun v g w => v = .bool (x5))), (7, (fun v g w => v = .bool (i6)))] [0, 1, 2, 3, 4, 5, 6, 7, 8, 9, 10, 11, 12, 13, 14, 15, 16, 17, 18, 19, 20, 21, 22, 23, 24, 25, 26, 27, 28, 29, 30, 31, 32, 33, 34, 35, 36, 37, 38] rfl mixed (by kernel_rfl) (⟨fun _ => up_eq _, fun _ => up_eq _, trivial⟩) ?_
          refine L_p (fPtr x6 0) rfl rfl (P_fieldAddr at_87_0 rfl (OB.ptr b2324)) ?_
          refine L_ld (c := .int .i64 ((o0).Colour)) rfl rfl .plain (fun _ _ h => ⟨h.ch, fun b hb _ => h.below.block b hb⟩) y9 rfl ?_
          refine L_do (φ := fun v g w => v = .bool (x5)) rfl rfl .plain (fun g w hd => D_call (g := g) (vs := [.int .i64 ((o0).Colour), .int .i64 (0), .int .i64 (9)]) en59 (.cons rfl (.cons rfl (.cons rfl .nil))) (wk59  z9) fun g' w' v hs hr => ⟨g', hs, hr⟩) (fun tB hv => ?_)
          obtain ⟨_, _, _, rfl⟩ := hv
          refine L_p (.bool (!x5)) rfl rfl (P_not rfl) ?_
          refine L_p (.bool (!x5)) rfl rfl (P_move rfl) ?_
          refine L_y (fPtr x6 1) rfl rfl rfl rfl t5 (P_fieldAddr at_87_1 rfl (OB.ptr b2324)) ?_
          refine L_ld (c := .int .i64 ((o0).Side)) rfl rfl (.yes2 rfl rfl t5) (fun _ _ h => ⟨h.ch, fun b hb _ => h.below.block b hb⟩) rA rfl ?_
          refine L_do (φ := fun v g w => v = .bool (i6)) rfl rfl (.yes2 rfl rfl t5) (fun g w hd => D_call (g := g) (vs := [.int .i64 ((o0).Side), .int .i64 (0), .int .i64 (1)]) en59 (.cons rfl (.cons rfl (.cons rfl .nil))) (wk59  yA) fun g' w' v hs hr => ⟨g', hs, hr⟩) (fun cE hv => ?_)
          obtain ⟨_, _, _, rfl⟩ := hv
          refine L_y (.bool (!i6)) rfl rfl rfl rfl t5 (P_not rfl) ?_
          refine L_p (.bool (!i6)) rfl rfl (P_pick (b := (!x5)) rfl (pick_f t5 rfl)) ?_
          refine L_p (.bool (!i6)) rfl rfl (P_move rfl) ?_
          iterate 11 refine L_s rfl rfl rfl i3 rfl ?_
          refine L_p (.bool true) rfl rfl (P_pick (b := (!i6)) rfl (pick_t i3 rfl)) ?_
          refine L_dead (fun _ => rfl) 16 rfl ?_
          refine L_nl fun tK zO hs => ?_
          have hfr := hfr.ext hs
          have i5 := i5.ext hs
          clear hs
          refine EL_nil ?_
          obtain rfl := sinj h
          exact hQ _ _ ⟨tK, hfr, g8, i5, t8, rfl⟩
         ·refine L_loadO (x := .tmp 71) part_BoxShuttle_2.1 Try.isAgg3 Try.sizeOf3 b2324 fun aP uK cC => ?_
          obtain rfl := RV_int.1 uK
          have vK := PT_field (part_BoxLoom_0).1 i5
          refine L_load (x := .tmp 73) Try.isAgg22 Try.sizeOf22 vK fun gA vB eC => ?_
          refine L_loadO (x := .tmp 75) part_BoxShuttle_1.1 Try.isAgg3 Try.sizeOf3 b2324 fun bP xK iC => ?_
          obtain rfl := RV_int.1 xK
          obtain ⟨k8, aB, h⟩ := bsome h
          have yK := PT_idx vB aB
          refine L_load (x := .tmp 77) Try.isAgg3 Try.sizeOf3 yK fun cP zK lC => ?_
          obtain rfl := RV_int.1 zK
          obtain ⟨d7, mC, h⟩ := bsome h
          rcases csome h with ⟨v6, h⟩ | ⟨v6, h⟩
          ·refine E_drawL (g := qA) (n := 39) [(2, (fun v g w => v = .bool (x5))), (7, (fun v g w => v = .bool (i6))), (20, (fun v g w => v = .bool (d7)))] [0, 1, 2, 3, 4, 5, 6, 7, 8, 9, 10, 11, 12, 13, 14, 15, 16, 17, 18, 19, 20, 21, 22, 23, 24, 25, 26, 27, 28, 29, 30, 31, 32, 33, 34, 35, 36, 37, 38] rfl mixed (by kernel_rfl) (⟨fun _ => up_eq _, fun _ => up_eq _, fun _ => up_eq _, trivial⟩) ?_
           refine L_p (fPtr x6 0) rfl rfl (P_fieldAddr at_87_0 rfl (OB.ptr b2324)) ?_
           refine L_ld (c := .int .i64 ((o0).Colour)) rfl rfl .plain (fun _ _ h => ⟨h.ch, fun b hb _ => h.below.block b hb⟩) y9 rfl ?_
           refine L_do (φ := fun v g w => v = .bool (x5)) rfl rfl .plain (fun g w hd => D_call (g := g) (vs := [.int .i64 ((o0).Colour), .int .i64 (0), .int .i64 (9)]) en59 (.cons rfl (.cons rfl (.cons rfl .nil))) (wk59  z9) fun g' w' v hs hr => ⟨g', hs, hr⟩) (fun tB hv => ?_)
           obtain ⟨_, _, _, rfl⟩ := hv
           refine L_p (.bool (!x5)) rfl rfl (P_not rfl) ?_
           refine L_p (.bool (!x5)) rfl rfl (P_move rfl) ?_
           refine L_y (fPtr x6 1) rfl rfl rfl rfl t5 (P_fieldAddr at_87_1 rfl (OB.ptr b2324)) ?_
           refine L_ld (c := .int .i64 ((o0).Side)) rfl rfl (.yes2 rfl rfl t5) (fun _ _ h => ⟨h.ch, fun b hb _ => h.below.block b hb⟩) rA rfl ?_
           refine L_do (φ := fun v g w => v = .bool (i6)) rfl rfl (.yes2 rfl rfl t5) (fun g w hd => D_call (g := g) (vs := [.int .i64 ((o0).Side), .int .i64 (0), .int .i64 (1)]) en59 (.cons rfl (.cons rfl (.cons rfl .nil))) (wk59  yA) fun g' w' v hs hr => ⟨g', hs, hr⟩) (fun cE hv => ?_)
           obtain ⟨_, _, _, rfl⟩ := hv
           refine L_y (.bool (!i6)) rfl rfl rfl rfl t5 (P_not rfl) ?_
           refine L_p (.bool (!i6)) rfl rfl (P_pick (b := (!x5)) rfl (pick_f t5 rfl)) ?_
           refine L_p (.bool (!i6)) rfl rfl (P_move rfl) ?_
           refine L_y (fPtr x6 2) rfl rfl rfl rfl i3 (P_fieldAddr at_87_2 rfl (OB.ptr b2324)) ?_
           refine L_ld (c := .int .i64 ((o0).Box)) rfl rfl (.yes2 rfl rfl i3) (fun _ _ h => ⟨h.ch, fun b hb _ => h.below.block b hb⟩) cC rfl ?_
           refine L_y (fPtr p1 0) rfl rfl rfl rfl i3 (P_fieldAddr at_25_0 g8 (PT.ptr i5)) ?_
           refine L_ld (c := gA) rfl rfl (.yes2 rfl rfl i3) (fun _ _ h => h.ch) eC rfl ?_
           refine L_y (fPtr x6 1) rfl rfl rfl rfl i3 (P_fieldAddr at_87_1 rfl (OB.ptr b2324)) ?_
           refine L_ld (c := .int .i64 ((o0).Side)) rfl rfl (.yes2 rfl rfl i3) (fun _ _ h => ⟨h.ch, fun b hb _ => h.below.block b hb⟩) iC rfl ?_
           refine L_y (ePtr gA (o0).Side 1) rfl rfl rfl rfl i3 (P_indexAddr (α := Int) Try.underlying22 Try.sizeOf3 rfl vB rfl aB) ?_
           refine L_ld (c := .int .i64 (k8)) rfl rfl (.yes2 rfl rfl i3) (fun _ _ h => h.ch) lC rfl ?_
           refine L_y (.int .i64 ((w64 (k8 - (1 : Int))))) rfl rfl rfl rfl i3 (P_int rfl rfl rfl) ?_
           refine L_do (φ := fun v g w => v = .bool (d7)) rfl rfl (.yes2 rfl rfl i3) (fun g w hd => D_call (g := g) (vs := [.int .i64 ((o0).Box), .int .i64 (0), .int .i64 ((w64 (k8 - (1 : Int))))]) en59 (.cons rfl (.cons rfl (.cons rfl .nil))) (wk59  mC) fun g' w' v hs hr => ⟨g', hs, hr⟩) (fun jG hv => ?_)
           obtain ⟨_, _, _, rfl⟩ := hv
           refine L_y (.bool (!d7)) rfl rfl rfl rfl i3 (P_not rfl) ?_
           refine L_p (.bool (!d7)) rfl rfl (P_pick (b := (!i6)) rfl (pick_f i3 rfl)) ?_
           refine L_p (.bool (!d7)) rfl rfl (P_move rfl) ?_
           iterate 8 refine L_s rfl rfl rfl v6 rfl ?_
           refine L_p (.bool true) rfl rfl (P_pick (b := (!d7)) rfl (pick_t v6 rfl)) ?_
           refine L_dead (fun _ => rfl) 6 rfl ?_
           refine L_nl fun aL dP hs => ?_
           have hfr := hfr.ext hs
           have i5 := i5.ext hs
           clear hs
           refine EL_nil ?_
           obtain rfl := sinj h
           exact hQ _ _ ⟨aL, hfr, g8, i5, t8, rfl⟩
          ·refine L_loadO (x := .tmp 85) (SubS.comp part_BoxShuttle_3 part_Span_0 rfl).1 Try.isAgg3 Try.sizeOf3 b2324 fun eP bL uE => ?_
           obtain rfl := RV_int.1 bL
           refine L_loadO (x := .tmp 88) (SubS.comp part_BoxShuttle_3 part_Span_1 rfl).1 Try.isAgg3 Try.sizeOf3 b2324 fun gP cL vE => ?_
           obtain rfl := RV_int.1 cL
           obtain ⟨v7, xE, h⟩ := bsome h
           rcases csome h with ⟨q8, h⟩ | ⟨q8, h⟩
           ·refine E_drawL (g := qA) (n := 39) [(2, (fun v g w => v = .bool (x5))), (7, (fun v g w => v = .bool (i6))), (20, (fun v g w => v = .bool (d7))), (30, (fun v g w => v = .bool (v7)))] [0, 1, 2, 3, 4, 5, 6, 7, 8, 9, 10, 11, 12, 13, 14, 15, 16, 17, 18, 19, 20, 21, 22, 23, 24, 25, 26, 27, 28, 29, 30, 31, 32, 33, 34, 35, 36, 37, 38] rfl mixed (by kernel_rfl) (⟨fun _ => up_eq _, fun _ => up_eq _, fun _ => up_eq _, fun _ => up_eq _, trivial⟩) ?_
            refine L_p (fPtr x6 0) rfl rfl (P_fieldAddr at_87_0 rfl (OB.ptr b2324)) ?_
            refine L_ld (c := .int .i64 ((o0).Colour)) rfl rfl .plain (fun _ _ h => ⟨h.ch, fun b hb _ => h.below.block b hb⟩) y9 rfl ?_
            refine L_do (φ := fun v g w => v = .bool (x5)) rfl rfl .plain (fun g w hd => D_call (g := g) (vs := [.int .i64 ((o0).Colour), .int .i64 (0), .int .i64 (9)]) en59 (.cons rfl (.cons rfl (.cons rfl .nil))) (wk59  z9) fun g' w' v hs hr => ⟨g', hs, hr⟩) (fun tB hv => ?_)
            obtain ⟨_, _, _, rfl⟩ := hv
            refine L_p (.bool (!x5)) rfl rfl (P_not rfl) ?_
            refine L_p (.bool (!x5)) rfl rfl (P_move rfl) ?_
            refine L_y (fPtr x6 1) rfl rfl rfl rfl t5 (P_fieldAddr at_87_1 rfl (OB.ptr b2324)) ?_
            refine L_ld (c := .int .i64 ((o0).Side)) rfl rfl (.yes2 rfl rfl t5) (fun _ _ h => ⟨h.ch, fun b hb _ => h.below.block b hb⟩) rA rfl ?_
            refine L_do (φ := fun v g w => v = .bool (i6)) rfl rfl (.yes2 rfl rfl t5) (fun g w hd => D_call (g := g) (vs := [.int .i64 ((o0).Side), .int .i64 (0), .int .i64 (1)]) en59 (.cons rfl (.cons rfl (.cons rfl .nil))) (wk59  yA) fun g' w' v hs hr => ⟨g', hs, hr⟩) (fun cE hv => ?_)
            obtain ⟨_, _, _, rfl⟩ := hv
            refine L_y (.bool (!i6)) rfl rfl rfl rfl t5 (P_not rfl) ?_
            refine L_p (.bool (!i6)) rfl rfl (P_pick (b := (!x5)) rfl (pick_f t5 rfl)) ?_
            refine L_p (.bool (!i6)) rfl rfl (P_move rfl) ?_
            refine L_y (fPtr x6 2) rfl rfl rfl rfl i3 (P_fieldAddr at_87_2 rfl (OB.ptr b2324)) ?_
            refine L_ld (c := .int .i64 ((o0).Box)) rfl rfl (.yes2 rfl rfl i3) (fun _ _ h => ⟨h.ch, fun b hb _ => h.below.block b hb⟩) cC rfl ?_
            refine L_y (fPtr p1 0) rfl rfl rfl rfl i3 (P_fieldAddr at_25_0 g8 (PT.ptr i5)) ?_
            refine L_ld (c := gA) rfl rfl (.yes2 rfl rfl i3) (fun _ _ h => h.ch) eC rfl ?_
            refine L_y (fPtr x6 1) rfl rfl rfl rfl i3 (P_fieldAddr at_87_1 rfl (OB.ptr b2324)) ?_
            refine L_ld (c := .int .i64 ((o0).Side)) rfl rfl (.yes2 rfl rfl i3) (fun _ _ h => ⟨h.ch, fun b hb _ => h.below.block b hb⟩) iC rfl ?_
            refine L_y (ePtr gA (o0).Side 1) rfl rfl rfl rfl i3 (P_indexAddr (α := Int) Try.underlying22 Try.sizeOf3 rfl vB rfl aB) ?_
            refine L_ld (c := .int .i64 (k8)) rfl rfl (.yes2 rfl rfl i3) (fun _ _ h => h.ch) lC rfl ?_
            refine L_y (.int .i64 ((w64 (k8 - (1 : Int))))) rfl rfl rfl rfl i3 (P_int rfl rfl rfl) ?_
            refine L_do (φ := fun v g w => v = .bool (d7)) rfl rfl (.yes2 rfl rfl i3) (fun g w hd => D_call (g := g) (vs := [.int .i64 ((o0).Box), .int .i64 (0), .int .i64 ((w64 (k8 - (1 : Int))))]) en59 (.cons rfl (.cons rfl (.cons rfl .nil))) (wk59  mC) fun g' w' v hs hr => ⟨g', hs, hr⟩) (fun jG hv => ?_)
            obtain ⟨_, _, _, rfl⟩ := hv
            refine L_y (.bool (!d7)) rfl rfl rfl rfl i3 (P_not rfl) ?_
            refine L_p (.bool (!d7)) rfl rfl (P_pick (b := (!i6)) rfl (pick_f i3 rfl)) ?_
            refine L_p (.bool (!d7)) rfl rfl (P_move rfl) ?_
            refine L_y (fPtr x6 3) rfl rfl rfl rfl v6 (P_fieldAddr at_87_3 rfl (OB.ptr b2324)) ?_
            refine L_y (fPtr x6 3) rfl rfl rfl rfl v6 (P_fieldAddr2 (o1 := 3) rfl at_85_0 rfl (OB.ptr b2324)) ?_
            refine L_ld (c := .int .i64 (((o0).Yarn).Low)) rfl rfl (.yes2 rfl rfl v6) (fun _ _ h => ⟨h.ch, fun b hb _ => h.below.block b hb⟩) uE rfl ?_
            refine L_y (fPtr x6 3) rfl rfl rfl rfl v6 (P_fieldAddr at_87_3 rfl (OB.ptr b2324)) ?_
            refine L_y (fPtr x6 4) rfl rfl rfl rfl v6 (P_fieldAddr2 (o1 := 3) rfl at_85_1 rfl (OB.ptr b2324)) ?_
            refine L_ld (c := .int .i64 (((o0).Yarn).High)) rfl rfl (.yes2 rfl rfl v6) (fun _ _ h => ⟨h.ch, fun b hb _ => h.below.block b hb⟩) vE rfl ?_
            refine L_do (φ := fun v g w => v = .bool (v7)) rfl rfl (.yes2 rfl rfl v6) (fun g w hd => D_call (g := g) (vs := [.int .i64 (((o0).Yarn).Low), .int .i64 (0), .int .i64 (((o0).Yarn).High)]) en59 (.cons rfl (.cons rfl (.cons rfl .nil))) (wk59  xE) fun g' w' v hs hr => ⟨g', hs, hr⟩) (fun dL hv => ?_)
            obtain ⟨_, _, _, rfl⟩ := hv
            refine L_y (.bool (!v7)) rfl rfl rfl rfl v6 (P_not rfl) ?_
            refine L_p (.bool (!v7)) rfl rfl (P_pick (b := (!d7)) rfl (pick_f v6 rfl)) ?_
            refine L_p (.bool (!v7)) rfl rfl (P_move rfl) ?_
            iterate 4 refine L_s rfl rfl rfl q8 rfl ?_
            refine L_p (.bool true) rfl rfl (P_pick (b := (!v7)) rfl (pick_t q8 rfl)) ?_
            refine L_nl fun eL iP hs => ?_
            have hfr := hfr.ext hs
            have i5 := i5.ext hs
            clear hs
            refine EL_nil ?_
            obtain rfl := sinj h
            exact hQ _ _ ⟨eL, hfr, g8, i5, t8, rfl⟩
           ·refine L_loadO (x := .tmp 95) (SubS.comp part_BoxShuttle_3 part_Span_1 rfl).1 Try.isAgg3 Try.sizeOf3 b2324 fun jP gL yI => ?_
            obtain rfl := RV_int.1 gL
            refine E_drawL (g := qA) (n := 39) [(2, (fun v g w => v = .bool (x5))), (7, (fun v g w => v = .bool (i6))), (20, (fun v g w => v = .bool (d7))), (30, (fun v g w => v = .bool (v7)))] [0, 1, 2, 3, 4, 5, 6, 7, 8, 9, 10, 11, 12, 13, 14, 15, 16, 17, 18, 19, 20, 21, 22, 23, 24, 25, 26, 27, 28, 29, 30, 31, 32, 33, 34, 35, 36, 37, 38] rfl mixed (by kernel_rfl) (⟨fun _ => up_eq _, fun _ => up_eq _, fun _ => up_eq _, fun _ => up_eq _, trivial⟩) ?_
            refine L_p (fPtr x6 0) rfl rfl (P_fieldAddr at_87_0 rfl (OB.ptr b2324)) ?_
            refine L_ld (c := .int .i64 ((o0).Colour)) rfl rfl .plain (fun _ _ h => ⟨h.ch, fun b hb _ => h.below.block b hb⟩) y9 rfl ?_
            refine L_do (φ := fun v g w => v = .bool (x5)) rfl rfl .plain (fun g w hd => D_call (g := g) (vs := [.int .i64 ((o0).Colour), .int .i64 (0), .int .i64 (9)]) en59 (.cons rfl (.cons rfl (.cons rfl .nil))) (wk59  z9) fun g' w' v hs hr => ⟨g', hs, hr⟩) (fun tB hv => ?_)
            obtain ⟨_, _, _, rfl⟩ := hv
            refine L_p (.bool (!x5)) rfl rfl (P_not rfl) ?_
            refine L_p (.bool (!x5)) rfl rfl (P_move rfl) ?_
            refine L_y (fPtr x6 1) rfl rfl rfl rfl t5 (P_fieldAddr at_87_1 rfl (OB.ptr b2324)) ?_
            refine L_ld (c := .int .i64 ((o0).Side)) rfl rfl (.yes2 rfl rfl t5) (fun _ _ h => ⟨h.ch, fun b hb _ => h.below.block b hb⟩) rA rfl ?_
            refine L_do (φ := fun v g w => v = .bool (i6)) rfl rfl (.yes2 rfl rfl t5) (fun g w hd => D_call (g := g) (vs := [.int .i64 ((o0).Side), .int .i64 (0), .int .i64 (1)]) en59 (.cons rfl (.cons rfl (.cons rfl .nil))) (wk59  yA) fun g' w' v hs hr => ⟨g', hs, hr⟩) (fun cE hv => ?_)
            obtain ⟨_, _, _, rfl⟩ := hv
            refine L_y (.bool (!i6)) rfl rfl rfl rfl t5 (P_not rfl) ?_
            refine L_p (.bool (!i6)) rfl rfl (P_pick (b := (!x5)) rfl (pick_f t5 rfl)) ?_
            refine L_p (.bool (!i6)) rfl rfl (P_move rfl) ?_
            refine L_y (fPtr x6 2) rfl rfl rfl rfl i3 (P_fieldAddr at_87_2 rfl (OB.ptr b2324)) ?_
            refine L_ld (c := .int .i64 ((o0).Box)) rfl rfl (.yes2 rfl rfl i3) (fun _ _ h => ⟨h.ch, fun b hb _ => h.below.block b hb⟩) cC rfl ?_
            refine L_y (fPtr p1 0) rfl rfl rfl rfl i3 (P_fieldAddr at_25_0 g8 (PT.ptr i5)) ?_
            refine L_ld (c := gA) rfl rfl (.yes2 rfl rfl i3) (fun _ _ h => h.ch) eC rfl ?_
            refine L_y (fPtr x6 1) rfl rfl rfl rfl i3 (P_fieldAddr at_87_1 rfl (OB.ptr b2324)) ?_
            refine L_ld (c := .int .i64 ((o0).Side)) rfl rfl (.yes2 rfl rfl i3) (fun _ _ h => ⟨h.ch, fun b hb _ => h.below.block b hb⟩) iC rfl ?_
            refine L_y (ePtr gA (o0).Side 1) rfl rfl rfl rfl i3 (P_indexAddr (α := Int) Try.underlying22 Try.sizeOf3 rfl vB rfl aB) ?_
            refine L_ld (c := .int .i64 (k8)) rfl rfl (.yes2 rfl rfl i3) (fun _ _ h => h.ch) lC rfl ?_
            refine L_y (.int .i64 ((w64 (k8 - (1 : Int))))) rfl rfl rfl rfl i3 (P_int rfl rfl rfl) ?_
            refine L_do (φ := fun v g w => v = .bool (d7)) rfl rfl (.yes2 rfl rfl i3) (fun g w hd => D_call (g := g) (vs := [.int .i64 ((o0).Box), .int .i64 (0), .int .i64 ((w64 (k8 - (1 : Int))))]) en59 (.cons rfl (.cons rfl (.cons rfl .nil))) (wk59  mC) fun g' w' v hs hr => ⟨g', hs, hr⟩) (fun jG hv => ?_)
            obtain ⟨_, _, _, rfl⟩ := hv
            refine L_y (.bool (!d7)) rfl rfl rfl rfl i3 (P_not rfl) ?_
            refine L_p (.bool (!d7)) rfl rfl (P_pick (b := (!i6)) rfl (pick_f i3 rfl)) ?_
            refine L_p (.bool (!d7)) rfl rfl (P_move rfl) ?_
            refine L_y (fPtr x6 3) rfl rfl rfl rfl v6 (P_fieldAddr at_87_3 rfl (OB.ptr b2324)) ?_
            refine L_y (fPtr x6 3) rfl rfl rfl rfl v6 (P_fieldAddr2 (o1 := 3) rfl at_85_0 rfl (OB.ptr b2324)) ?_
            refine L_ld (c := .int .i64 (((o0).Yarn).Low)) rfl rfl (.yes2 rfl rfl v6) (fun _ _ h => ⟨h.ch, fun b hb _ => h.below.block b hb⟩) uE rfl ?_
            refine L_y (fPtr x6 3) rfl rfl rfl rfl v6 (P_fieldAddr at_87_3 rfl (OB.ptr b2324)) ?_
            refine L_y (fPtr x6 4) rfl rfl rfl rfl v6 (P_fieldAddr2 (o1 := 3) rfl at_85_1 rfl (OB.ptr b2324)) ?_
            refine L_ld (c := .int .i64 (((o0).Yarn).High)) rfl rfl (.yes2 rfl rfl v6) (fun _ _ h => ⟨h.ch, fun b hb _ => h.below.block b hb⟩) vE rfl ?_
            refine L_do (φ := fun v g w => v = .bool (v7)) rfl rfl (.yes2 rfl rfl v6) (fun g w hd => D_call (g := g) (vs := [.int .i64 (((o0).Yarn).Low), .int .i64 (0), .int .i64 (((o0).Yarn).High)]) en59 (.cons rfl (.cons rfl (.cons rfl .nil))) (wk59  xE) fun g' w' v hs hr => ⟨g', hs, hr⟩) (fun dL hv => ?_)
            obtain ⟨_, _, _, rfl⟩ := hv
            refine L_y (.bool (!v7)) rfl rfl rfl rfl v6 (P_not rfl) ?_
            refine L_p (.bool (!v7)) rfl rfl (P_pick (b := (!d7)) rfl (pick_f v6 rfl)) ?_
            refine L_p (.bool (!v7)) rfl rfl (P_move rfl) ?_
            refine L_y (fPtr x6 3) rfl rfl rfl rfl q8 (P_fieldAddr at_87_3 rfl (OB.ptr b2324)) ?_
            refine L_y (fPtr x6 4) rfl rfl rfl rfl q8 (P_fieldAddr2 (o1 := 3) rfl at_85_1 rfl (OB.ptr b2324)) ?_
            refine L_ld (c := .int .i64 (((o0).Yarn).High)) rfl rfl (.yes2 rfl rfl q8) (fun _ _ h => ⟨h.ch, fun b hb _ => h.below.block b hb⟩) yI rfl ?_
            refine L_y (.bool ((decide (((o0).Yarn).High > (1000 : Int))))) rfl rfl rfl rfl q8 (P_int rfl rfl rfl) ?_
            refine L_p (.bool ((decide (((o0).Yarn).High > (1000 : Int))))) rfl rfl (P_pick (b := (!v7)) rfl (pick_f q8 rfl)) ?_
            refine L_nl fun iL kP hs => ?_
            have hfr := hfr.ext hs
            have i5 := i5.ext hs
            clear hs
            refine EL_nil ?_
            obtain rfl := sinj h
            exact hQ _ _ ⟨iL, hfr, g8, i5, t8, rfl⟩
       ·clear hx
        obtain ⟨jL, hfr, rG, sG, tG, qC⟩ := hR
        rcases csome h with ⟨rC, h⟩ | ⟨rC, h⟩
        ·refine E_cond_true (Eq.trans (show ev _ _ = .bool (v8) from qC) (congrArg Value.bool rC)) ?_
         refine E_seq (E_region (EL_at (.int .i64 (2)) rfl rfl ?_))
         refine EL_nil (thn_n (E_ret (blk_r ?_)))
         refine thn_r ?_
         refine thn_r ?_
         refine blk_r ?_
         refine thn_r ?_
         obtain rfl := sinj h
         exact end1 rfl rfl (show _ = .int .i64 (2) from rfl) ⟨_, hfr, rfl⟩
        ·refine E_cond_false (Eq.trans (show ev _ _ = .bool (v8) from qC) (congrArg Value.bool rC)) ?_
         exact E_skip (blk_n (thn_n (xI () _ _ ⟨jL, hfr, rG, sG, tG⟩ h)))
      ·rintro _ vN lP ⟨lL, hfr, uG, vG, xG⟩ h
       refine E_region (EL_mv xG rfl ?_)
       refine EL_in (.int .i64 ((w64 (i7 + (1 : Int))))) rfl rfl rfl rfl ?_
       refine EL_at (.int .i64 ((w64 (i7 + (1 : Int))))) rfl rfl ?_
       exact EL_nil (thn_n (uI ((w64 (i7 + (1 : Int)))) _ _ ⟨lL, hfr, uG, vG, rfl⟩ h))
    ·rintro _ xN mP ⟨kG, hfr, jD, lB⟩ h
     refine E_joinC h (fun (s : Unit) e w => ∃ (g : Gh) , Fr gI wI g w ∧ e 1 = p1 ∧ PT g.m w (x0 : BoxLoom) p1) (fun X2880 xF zI h => ?_) ?_
     ·refine E_seq (E_region (EL_p (fPtr p1 2) (P_fieldAddr at_25_2 jD (PT.ptr lB)) rfl ?_))
      have mL := PT_field (part_BoxLoom_2).1 lB
      refine EL_do .plain rfl (D_load (g := kG) Try.isAgg23 Try.sizeOf23 rfl mL fun nP nL => ?_)
      refine EL_p (.int .i64 (((x0).Shuttles).length : Int)) (P_len Try.underlying23 rfl nL) rfl ?_
      refine EL_in (.bool (((((x0).Shuttles).length : Int) == (0 : Int)))) rfl rfl rfl rfl ?_
      refine EL_nil (thn_n ?_)
      rcases csome h with ⟨uC, h⟩ | ⟨uC, h⟩
      ·refine E_ct uC rfl ?_
       refine E_seq (E_region (EL_at (.int .i64 (2)) rfl rfl ?_))
       refine EL_nil (thn_n (E_ret (thn_r ?_)))
       obtain rfl := sinj h
       exact end1 rfl rfl (show _ = .int .i64 (2) from rfl) ⟨_, hfr, rfl⟩
      ·refine E_cf uC rfl ?_
       exact E_skip (thn_n (zI () _ _ ⟨kG, hfr, jD, lB⟩ h))
     ·rintro _ yN oP ⟨oL, hfr, yG, zG⟩ h
      refine E_joinC h (fun (s : Unit) e w => ∃ (g : Gh) , Fr gI wI g w) (fun X3633 pF aJ h => ?_) ?_
      ·refine E_seq (E_region (EL_at (.int .i64 (0)) rfl rfl ?_))
       refine EL_nil (thn_n (E_block ?_))
       refine E_lp h (fun (s : Int) e w => ∃ (g : Gh) , Fr gI wI g w ∧ e 1 = p1 ∧ PT g.m w (x0 : BoxLoom) p1 ∧ e 6 = .int .i64 (s)) ⟨oL, hfr, yG, zG, rfl⟩ (fun X3634 qF bJ => ?_)
       rintro u3 zN pP ⟨dE, hfr, kD, mB, lD⟩ h
       refine E_joinC h (fun (s : Unit) e w => ∃ (g : Gh) , Fr gI wI g w ∧ e 1 = p1 ∧ PT g.m w (x0 : BoxLoom) p1 ∧ e 6 = .int .i64 (u3)) (fun X3639 vF cJ h => ?_) ?_
       ·refine E_seq (E_region (EL_mv lD rfl ?_))
        refine EL_p (fPtr p1 2) (P_fieldAddr at_25_2 kD (PT.ptr mB)) rfl ?_
        have pL := PT_field (part_BoxLoom_2).1 mB
        refine EL_do .plain rfl (D_load (g := dE) Try.isAgg23 Try.sizeOf23 rfl pL fun sP qL => ?_)
        refine EL_p (.int .i64 (((x0).Shuttles).length : Int)) (P_len Try.underlying23 rfl qL) rfl ?_
        refine EL_p (.bool ((decide (u3 < (((x0).Shuttles).length : Int))))) (P_int rfl rfl rfl) rfl ?_
        refine EL_nil (thn_n ?_)
        rcases csome h with ⟨vC, h⟩ | ⟨vC, h⟩
        ·refine E_ct vC rfl ?_
         exact E_skip (thn_n (cJ () _ _ ⟨dE, hfr, kD, mB, lD⟩ h))
        ·refine E_cf vC rfl ?_
         refine E_exit ?_
         refine thn_e ?_
         refine thn_e ?_
         refine blk_hit ?_
         exact thn_n (aJ () _ _ ⟨dE, hfr⟩ h)
       ·rintro _ aO tP ⟨rL, hfr, aH, bH, cH⟩ h
        refine E_joinC h (fun (s : Unit) e w => ∃ (g : Gh) , Fr gI wI g w ∧ e 1 = p1 ∧ PT g.m w (x0 : BoxLoom) p1 ∧ e 6 = .int .i64 (u3)) (fun X4012 rF dJ h => ?_) ?_
        ·refine E_block ?_
         refine E_seq (E_region (EL_at (.int .i64 (0)) rfl rfl ?_))
         refine EL_nil (thn_n (E_block ?_))
         refine E_lp h (fun (s : Int) e w => ∃ (g : Gh) , Fr gI wI g w ∧ e 1 = p1 ∧ PT g.m w (x0 : BoxLoom) p1 ∧ e 6 = .int .i64 (u3) ∧ e 7 = .int .i64 (s)) ⟨rL, hfr, aH, bH, cH, rfl⟩ (fun X4013 sF eJ => ?_)
         rintro l5 bO uP ⟨lG, hfr, mD, nD, nB, oD⟩ h
         refine E_joinC h (fun (s : Unit) e w => ∃ (g : Gh) , Fr gI wI g w ∧ e 1 = p1 ∧ PT g.m w (x0 : BoxLoom) p1 ∧ e 6 = .int .i64 (u3) ∧ e 7 = .int .i64 (l5)) (fun X4016 uF gJ h => ?_) ?_
         ·refine E_seq (E_region (EL_mv oD rfl ?_))
          refine EL_mv nB rfl ?_
          refine EL_in (.bool ((decide (l5 < u3)))) rfl rfl rfl rfl ?_
          refine EL_nil (thn_n ?_)
          rcases csome h with ⟨aD, h⟩ | ⟨aD, h⟩
          ·refine E_ct aD rfl ?_
           exact E_skip (thn_n (gJ () _ _ ⟨lG, hfr, mD, nD, nB, oD⟩ h))
          ·refine E_cf aD rfl ?_
           refine E_exit ?_
           refine thn_e ?_
           refine thn_e ?_
           refine blk_hit ?_
           exact blk_n (thn_n (dJ () _ _ ⟨lG, hfr, mD, nD, nB⟩ h))
         ·rintro _ cO vP ⟨mG, hfr, i8, y6, k9, l9⟩ h
          refine E_joinC h (fun (s : Unit) e w => ∃ (g : Gh) , Fr gI wI g w ∧ e 1 = p1 ∧ PT g.m w (x0 : BoxLoom) p1 ∧ e 6 = .int .i64 (u3) ∧ e 7 = .int .i64 (l5)) (fun X4199 tF iJ h => ?_) ?_
          ·refine E_block ?_
           obtain ⟨n8, hx, h⟩ := bsome h
           refine E_join (fun e w => ∃ (g : Gh) , Fr gI wI g w ∧ e 1 = p1 ∧ PT g.m w (x0 : BoxLoom) p1 ∧ e 6 = .int .i64 (u3) ∧ e 7 = .int .i64 (l5) ∧ e 142 = .bool (n8)) (fun Q' hQ => ?_) (fun dO xP hR => ?_)
           ·replace h := hx
            clear hx
            have tL := PT_field (part_BoxLoom_2).1 y6
            refine L_load (x := .tmp 115) Try.isAgg23 Try.sizeOf23 tL fun iA eE yE => ?_
            obtain ⟨l8, bD, h⟩ := bsome h
            have gE := PT_idx eE bD
            have uL := PT_field (part_BoxShuttle_1).1 gE
            refine L_load (x := .tmp 119) Try.isAgg3 Try.sizeOf3 uL fun yP vL zE => ?_
            obtain rfl := RV_int.1 vL
            have xL := PT_field (part_BoxLoom_2).1 y6
            refine L_load (x := .tmp 121) Try.isAgg23 Try.sizeOf23 xL fun jA iE cF => ?_
            obtain ⟨m8, cD, h⟩ := bsome h
            have jE := PT_idx iE cD
            have yL := PT_field (part_BoxShuttle_1).1 jE
            refine L_load (x := .tmp 125) Try.isAgg3 Try.sizeOf3 yL fun zP zL dF => ?_
            obtain rfl := RV_int.1 zL
            rcases csome h with ⟨a7, h⟩ | ⟨a7, h⟩
            ·have aM := PT_field (part_BoxLoom_2).1 y6
             refine L_load (x := .tmp 129) Try.isAgg23 Try.sizeOf23 aM fun kE nG jJ => ?_
             obtain ⟨mA, eF, h⟩ := bsome h
             have oG := PT_idx nG eF
             have bM := PT_field (part_BoxShuttle_2).1 oG
             refine L_load (x := .tmp 133) Try.isAgg3 Try.sizeOf3 bM fun bQ cM kJ => ?_
             obtain rfl := RV_int.1 cM
             have dM := PT_field (part_BoxLoom_2).1 y6
             refine L_load (x := .tmp 135) Try.isAgg23 Try.sizeOf23 dM fun lE pG lJ => ?_
             obtain ⟨pA, iF, h⟩ := bsome h
             have qG := PT_idx pG iF
             have eM := PT_field (part_BoxShuttle_2).1 qG
             refine L_load (x := .tmp 139) Try.isAgg3 Try.sizeOf3 eM fun cQ iM mJ => ?_
             obtain rfl := RV_int.1 iM
             refine E_drawL (g := mG) (n := 28) [] [0, 1, 2, 3, 4, 5, 6, 7, 8, 9, 10, 11, 12, 13, 14, 15, 16, 17, 18, 19, 20, 21, 22, 23, 24, 25, 26, 27] rfl mixed (by kernel_rfl) trivial ?_
             refine L_p (fPtr p1 2) rfl rfl (P_fieldAddr at_25_2 i8 (PT.ptr y6)) ?_
             refine L_ld (c := iA) rfl rfl .plain (fun _ _ h => h.ch) yE rfl ?_
             refine L_p (.int .i64 (u3)) rfl rfl (P_move k9) ?_
             refine L_p (ePtr iA u3 5) rfl rfl (P_indexAddr (α := BoxShuttle) Try.underlying23 Try.sizeOf87 rfl eE rfl bD) ?_
             refine L_p (fPtr (ePtr iA u3 5) 1) rfl rfl (P_fieldAddr at_87_1 rfl (PT.ptr gE)) ?_
             refine L_ld (c := .int .i64 ((l8).Side)) rfl rfl .plain (fun _ _ h => h.ch) zE rfl ?_
             refine L_p (fPtr p1 2) rfl rfl (P_fieldAddr at_25_2 i8 (PT.ptr y6)) ?_
             refine L_ld (c := jA) rfl rfl .plain (fun _ _ h => h.ch) cF rfl ?_
             refine L_p (.int .i64 (l5)) rfl rfl (P_move l9) ?_
             refine L_p (ePtr jA l5 5) rfl rfl (P_indexAddr (α := BoxShuttle) Try.underlying23 Try.sizeOf87 rfl iE rfl cD) ?_
             refine L_p (fPtr (ePtr jA l5 5) 1) rfl rfl (P_fieldAddr at_87_1 rfl (PT.ptr jE)) ?_
             refine L_ld (c := .int .i64 ((m8).Side)) rfl rfl .plain (fun _ _ h => h.ch) dF rfl ?_
             refine L_p (.bool (((l8).Side == (m8).Side))) rfl rfl (P_int rfl rfl rfl) ?_
             refine L_p (.bool (((l8).Side == (m8).Side))) rfl rfl (P_move rfl) ?_
             refine L_y (fPtr p1 2) rfl rfl rfl rfl a7 (P_fieldAddr at_25_2 i8 (PT.ptr y6)) ?_
             refine L_ld (c := kE) rfl rfl (.yes2 rfl rfl a7) (fun _ _ h => h.ch) jJ rfl ?_
             refine L_y (.int .i64 (u3)) rfl rfl rfl rfl a7 (P_move k9) ?_
             refine L_y (ePtr kE u3 5) rfl rfl rfl rfl a7 (P_indexAddr (α := BoxShuttle) Try.underlying23 Try.sizeOf87 rfl nG rfl eF) ?_
             refine L_y (fPtr (ePtr kE u3 5) 2) rfl rfl rfl rfl a7 (P_fieldAddr at_87_2 rfl (PT.ptr oG)) ?_
             refine L_ld (c := .int .i64 ((mA).Box)) rfl rfl (.yes2 rfl rfl a7) (fun _ _ h => h.ch) kJ rfl ?_
             refine L_y (fPtr p1 2) rfl rfl rfl rfl a7 (P_fieldAddr at_25_2 i8 (PT.ptr y6)) ?_
             refine L_ld (c := lE) rfl rfl (.yes2 rfl rfl a7) (fun _ _ h => h.ch) lJ rfl ?_
             refine L_y (.int .i64 (l5)) rfl rfl rfl rfl a7 (P_move l9) ?_
             refine L_y (ePtr lE l5 5) rfl rfl rfl rfl a7 (P_indexAddr (α := BoxShuttle) Try.underlying23 Try.sizeOf87 rfl pG rfl iF) ?_
             refine L_y (fPtr (ePtr lE l5 5) 2) rfl rfl rfl rfl a7 (P_fieldAddr at_87_2 rfl (PT.ptr qG)) ?_
             refine L_ld (c := .int .i64 ((pA).Box)) rfl rfl (.yes2 rfl rfl a7) (fun _ _ h => h.ch) mJ rfl ?_
             refine L_y (.bool (((mA).Box == (pA).Box))) rfl rfl rfl rfl a7 (P_int rfl rfl rfl) ?_
             refine L_p (.bool (((mA).Box == (pA).Box))) rfl rfl (P_pick (b := ((l8).Side == (m8).Side)) rfl (pick_t a7 rfl)) ?_
             refine L_nl fun jM dQ hs => ?_
             have hfr := hfr.ext hs
             have y6 := y6.ext hs
             clear hs
             refine EL_nil ?_
             obtain rfl := sinj h
             exact hQ _ _ ⟨jM, hfr, i8, y6, k9, l9, rfl⟩
            ·refine E_drawL (g := mG) (n := 28) [] [0, 1, 2, 3, 4, 5, 6, 7, 8, 9, 10, 11, 12, 13, 14, 15, 16, 17, 18, 19, 20, 21, 22, 23, 24, 25, 26, 27] rfl mixed (by kernel_rfl) trivial ?_
             refine L_p (fPtr p1 2) rfl rfl (P_fieldAddr at_25_2 i8 (PT.ptr y6)) ?_
             refine L_ld (c := iA) rfl rfl .plain (fun _ _ h => h.ch) yE rfl ?_
             refine L_p (.int .i64 (u3)) rfl rfl (P_move k9) ?_
             refine L_p (ePtr iA u3 5) rfl rfl (P_indexAddr (α := BoxShuttle) Try.underlying23 Try.sizeOf87 rfl eE rfl bD) ?_
             refine L_p (fPtr (ePtr iA u3 5) 1) rfl rfl (P_fieldAddr at_87_1 rfl (PT.ptr gE)) ?_
             refine L_ld (c := .int .i64 ((l8).Side)) rfl rfl .plain (fun _ _ h => h.ch) zE rfl ?_
             refine L_p (fPtr p1 2) rfl rfl (P_fieldAddr at_25_2 i8 (PT.ptr y6)) ?_
             refine L_ld (c := jA) rfl rfl .plain (fun _ _ h => h.ch) cF rfl ?_
             refine L_p (.int .i64 (l5)) rfl rfl (P_move l9) ?_
             refine L_p (ePtr jA l5 5) rfl rfl (P_indexAddr (α := BoxShuttle) Try.underlying23 Try.sizeOf87 rfl iE rfl cD) ?_
             refine L_p (fPtr (ePtr jA l5 5) 1) rfl rfl (P_fieldAddr at_87_1 rfl (PT.ptr jE)) ?_
             refine L_ld (c := .int .i64 ((m8).Side)) rfl rfl .plain (fun _ _ h => h.ch) dF rfl ?_
             refine L_p (.bool (((l8).Side == (m8).Side))) rfl rfl (P_int rfl rfl rfl) ?_
             refine L_p (.bool (((l8).Side == (m8).Side))) rfl rfl (P_move rfl) ?_
             iterate 13 refine L_s rfl rfl rfl a7 rfl ?_
             refine L_p (.bool false) rfl rfl (P_pick (b := ((l8).Side == (m8).Side)) rfl (pick_f a7 rfl)) ?_
             refine L_nl fun kM eQ hs => ?_
             have hfr := hfr.ext hs
             have y6 := y6.ext hs
             clear hs
             refine EL_nil ?_
             obtain rfl := sinj h
             exact hQ _ _ ⟨kM, hfr, i8, y6, k9, l9, rfl⟩
           ·clear hx
            obtain ⟨mM, hfr, dH, gH, iH, jH, oB⟩ := hR
            rcases csome h with ⟨eD, h⟩ | ⟨eD, h⟩
            ·refine E_cond_true (Eq.trans (show ev _ _ = .bool (n8) from oB) (congrArg Value.bool eD)) ?_
             refine E_seq (E_region (EL_at (.int .i64 (6)) rfl rfl ?_))
             refine EL_nil (thn_n (E_ret (blk_r ?_)))
             refine thn_r ?_
             refine thn_r ?_
             refine blk_r ?_
             refine blk_r ?_
             refine thn_r ?_
             refine thn_r ?_
             refine blk_r ?_
             refine thn_r ?_
             obtain rfl := sinj h
             exact end1 rfl rfl (show _ = .int .i64 (6) from rfl) ⟨_, hfr, rfl⟩
            ·refine E_cond_false (Eq.trans (show ev _ _ = .bool (n8) from oB) (congrArg Value.bool eD)) ?_
             exact E_skip (blk_n (thn_n (iJ () _ _ ⟨mM, hfr, dH, gH, iH, jH⟩ h)))
          ·rintro _ eO gQ ⟨nM, hfr, kH, lH, mH, nH⟩ h
           refine E_region (EL_mv nH rfl ?_)
           refine EL_in (.int .i64 ((w64 (l5 + (1 : Int))))) rfl rfl rfl rfl ?_
           refine EL_at (.int .i64 ((w64 (l5 + (1 : Int))))) rfl rfl ?_
           exact EL_nil (thn_n (eJ ((w64 (l5 + (1 : Int)))) _ _ ⟨nM, hfr, kH, lH, mH, rfl⟩ h))
        ·rintro _ gO iQ ⟨oM, hfr, oH, pH, qH⟩ h
         refine E_region (EL_mv qH rfl ?_)
         refine EL_in (.int .i64 ((w64 (u3 + (1 : Int))))) rfl rfl rfl rfl ?_
         refine EL_at (.int .i64 ((w64 (u3 + (1 : Int))))) rfl rfl ?_
         exact EL_nil (thn_n (bJ ((w64 (u3 + (1 : Int)))) _ _ ⟨oM, hfr, oH, pH, rfl⟩ h))
      ·rintro _ iO jQ ⟨kQ, hfr⟩ h
       refine E_seq (E_region (EL_at (.int .i64 (0)) rfl rfl ?_))
       refine EL_nil (thn_n (E_ret ?_))
       obtain rfl := sinj h
       exact end1 rfl rfl (show _ = .int .i64 (0) from rfl) ⟨_, hfr, rfl⟩
def f31 (x0 : BoxLoom) (x1 : List BoxPick) : Option (Int) :=
 jn (σ := Unit) (fun _ =>
  jn (σ := Unit) (fun _ =>
   jn (σ := Unit) (fun _ =>
    some ((0 : Int))
    ) fun iA =>
   lp (σ := Int) (fun jA o0 =>
    jn (σ := Unit) (fun _ =>
     jn (σ := Unit) (fun _ =>
      jA ((w64 (o0 + (1 : Int))))
      ) fun mA =>
     Option.bind (α := Bool) (
      (idx x1 o0).bind fun x6 =>
      (idx ((x0).Boxes) (0 : Int)).bind fun x5 =>
      (f59 ((x6).Left) ((0 : Int)) ((w64 (x5 - (1 : Int))))).bind fun l5 =>
      bif (!l5) then
       some (true)
      else
       (idx x1 o0).bind fun i7 =>
       (idx ((x0).Boxes) (1 : Int)).bind fun a7 =>
       (f59 ((i7).Right) ((0 : Int)) ((w64 (a7 - (1 : Int))))).bind fun y6 =>
       some ((!y6))
      ) fun t5 =>
     bif t5 then
      some ((2 : Int))
     else
      mA ()
     ) fun pA =>
    bif (decide (o0 < ((x1).length : Int))) then
     pA ()
    else
     iA ()
    ) big ((0 : Int))
   ) fun jD =>
  bif (decide (((x1).length : Int) > (24 : Int))) then
   some ((5 : Int))
  else
   jD ()
  ) fun k6 =>
 (f20 x0).bind fun y9 =>
 bif (y9 != (0 : Int)) then
  some (y9)
 else
  k6 ()
theorem en31 : Enters Try.prog 31 := enters_of Try.func31 (by kernel_rfl) rfl
theorem wk31 {gI : Gh} {wI : World} {x0 : BoxLoom} {x1 : List BoxPick} {up0 : Value} (rp0 : RV gI.m wI x0 up0) {up1 : Value} (rp1 : RV gI.m wI x1 up1) {r : Int} (h : f31 x0 x1 = some r) : Fn Try.prog 31 #[up0, up1] gI wI (fun _ _ v => v = .int .i64 (r)) := by
 unfold f31 at h
 refine fn_of_E Try.func31 rfl (Nat.le_of_ble_eq_true rfl) fun g0 hm hfr => ?_
 have rp0 : RV g0.m wI x0 up0 := hm ▸ rp0
 have rp1 : RV g0.m wI x1 up1 := hm ▸ rp1
 show E _ 47 none _ _ _ _ _
 refine E_seq (E_region (EL_do .plain rfl (D_box (g := g0) rfl rp0 fun g1 w1 p1 hs q1 => ?_)))
 have hfr := hfr.ext hs
 have rp1 := rp1.ext hs
 refine EL_at (.int .i64 (0)) rfl rfl ?_
 refine EL_nil (thn_n (E_joinC h (fun (s : Unit) e w => ∃ (g : Gh) , Fr gI wI g w ∧ e 1 = up1 ∧ RV g.m w (x1 : List BoxPick) up1 ∧ e 2 = p1 ∧ PT g.m w (x0 : BoxLoom) p1) (fun X6 k6 hk6 h => ?_) ?_))
 ·refine E_seq (E_region (EL_do .plain rfl (D_load (g := g1) Try.isAgg25 Try.sizeOf25 rfl q1 fun v7 r7 => ?_)))
  obtain ⟨y9, eE, h⟩ := bsome h
  refine EL_do .plain rfl (D_call (g := g1) (vs := [v7]) en20 (.cons rfl .nil) (wk20 r7 eE) fun g8 w8_ v8 hs hr => ?_)
  have hfr := hfr.ext hs
  have rp1 := rp1.ext hs
  have q1 := q1.ext hs
  subst hr
  refine EL_at (.int .i64 (y9)) rfl rfl ?_
  refine EL_nil (thn_n (E_seq (E_region (EL_mw (.int .i64 (y9)) rfl rfl ?_))))
  refine EL_in (.bool ((y9 != (0 : Int)))) rfl rfl rfl rfl ?_
  refine EL_nil (thn_n ?_)
  rcases csome h with ⟨r8, h⟩ | ⟨r8, h⟩
  ·refine E_ct r8 rfl ?_
   refine E_seq (E_region (EL_mw (.int .i64 (y9)) rfl rfl ?_))
   refine EL_at (.int .i64 (y9)) rfl rfl ?_
   refine EL_nil (thn_n (E_ret (thn_r ?_)))
   obtain rfl := sinj h
   exact end1 rfl rfl (show _ = .int .i64 (y9) from rfl) ⟨_, hfr, rfl⟩
  ·refine E_cf r8 rfl ?_
   exact E_skip (thn_n (hk6 () _ _ ⟨g8, hfr, rfl, rp1, rfl, q1⟩ h))
 ·rintro _ oE pF ⟨gE, hfr, d9, k9, eC, iC⟩ h
  refine E_joinC h (fun (s : Unit) e w => ∃ (g : Gh) , Fr gI wI g w ∧ e 1 = up1 ∧ RV g.m w (x1 : List BoxPick) up1 ∧ e 2 = p1 ∧ PT g.m w (x0 : BoxLoom) p1) (fun X13 jD kD h => ?_) ?_
  ·refine E_seq (E_region (EL_mv d9 rfl ?_))
   refine EL_p (.int .i64 ((x1).length : Int)) (P_len Try.underlying30 rfl k9) rfl ?_
   refine EL_in (.bool ((decide (((x1).length : Int) > (24 : Int))))) rfl rfl rfl rfl ?_
   refine EL_nil (thn_n ?_)
   rcases csome h with ⟨t8, h⟩ | ⟨t8, h⟩
   ·refine E_ct t8 rfl ?_
    refine E_seq (E_region (EL_at (.int .i64 (5)) rfl rfl ?_))
    refine EL_nil (thn_n (E_ret (thn_r ?_)))
    obtain rfl := sinj h
    exact end1 rfl rfl (show _ = .int .i64 (5) from rfl) ⟨_, hfr, rfl⟩
   ·refine E_cf t8 rfl ?_
    exact E_skip (thn_n (kD () _ _ ⟨gE, hfr, d9, k9, eC, iC⟩ h))
  ·rintro _ rE w15 ⟨iE, hfr, lC, mC, qC, rC⟩ h
   refine E_joinC h (fun (s : Unit) e w => ∃ (g : Gh) , Fr gI wI g w) (fun X361 iA uC h => ?_) ?_
   ·refine E_seq (E_region (EL_at (.int .i64 (0)) rfl rfl ?_))
    refine EL_nil (thn_n (E_block ?_))
    refine E_lp h (fun (s : Int) e w => ∃ (g : Gh) , Fr gI wI g w ∧ e 1 = up1 ∧ RV g.m w (x1 : List BoxPick) up1 ∧ e 2 = p1 ∧ PT g.m w (x0 : BoxLoom) p1 ∧ e 6 = .int .i64 (s)) ⟨iE, hfr, lC, mC, qC, rC, rfl⟩ (fun X362 jA vC => ?_)
    rintro o0 jE sE ⟨qA, hfr, m8, n8, rA, yA, q8⟩ h
    refine E_joinC h (fun (s : Unit) e w => ∃ (g : Gh) , Fr gI wI g w ∧ e 1 = up1 ∧ RV g.m w (x1 : List BoxPick) up1 ∧ e 2 = p1 ∧ PT g.m w (x0 : BoxLoom) p1 ∧ e 6 = .int .i64 (o0)) (fun X365 pA aD h => ?_) ?_
    ·refine E_seq (E_region (EL_mv q8 rfl ?_))
     refine EL_mv m8 rfl ?_
     refine EL_p (.int .i64 ((x1).length : Int)) (P_len Try.underlying30 rfl n8) rfl ?_
     refine EL_in (.bool ((decide (o0 < ((x1).length : Int))))) rfl rfl rfl rfl ?_
     refine EL_nil (thn_n ?_)
     rcases csome h with ⟨j7, h⟩ | ⟨j7, h⟩
     ·refine E_ct j7 rfl ?_
      exact E_skip (thn_n (aD () _ _ ⟨qA, hfr, m8, n8, rA, yA, q8⟩ h))
     ·refine E_cf j7 rfl ?_
      refine E_exit ?_
      refine thn_e ?_
      refine thn_e ?_
      refine blk_hit ?_
      exact thn_n (uC () _ _ ⟨qA, hfr⟩ h)
    ·rintro _ kE tE ⟨aB, hfr, i6, u3, j6, i5, v6⟩ h
     refine E_joinC h (fun (s : Unit) e w => ∃ (g : Gh) , Fr gI wI g w ∧ e 1 = up1 ∧ RV g.m w (x1 : List BoxPick) up1 ∧ e 2 = p1 ∧ PT g.m w (x0 : BoxLoom) p1 ∧ e 6 = .int .i64 (o0)) (fun X536 mA bD h => ?_) ?_
     ·refine E_block ?_
      obtain ⟨t5, hx, h⟩ := bsome h
      refine E_join (fun e w => ∃ (g : Gh) , Fr gI wI g w ∧ e 1 = up1 ∧ RV g.m w (x1 : List BoxPick) up1 ∧ e 2 = p1 ∧ PT g.m w (x0 : BoxLoom) p1 ∧ e 6 = .int .i64 (o0) ∧ e 46 = .bool (t5)) (fun Q' hQ => ?_) (fun lE uE hR => ?_)
      ·replace h := hx
       clear hx
       obtain ⟨x6, m7, h⟩ := bsome h
       have x8 := PT_idx u3 m7
       have lD := PT_field (part_BoxPick_0).1 x8
       refine L_load (x := .tmp 24) Try.isAgg3 Try.sizeOf3 lD fun vE mD l9 => ?_
       obtain rfl := RV_int.1 mD
       have nD := PT_field (part_BoxLoom_0).1 i5
       refine L_load (x := .tmp 26) Try.isAgg22 Try.sizeOf22 nD fun i8 a9 n9 => ?_
       obtain ⟨x5, k8, h⟩ := bsome h
       have oD := PT_idx a9 k8
       refine L_load (x := .tmp 28) Try.isAgg3 Try.sizeOf3 oD fun xE sD u9 => ?_
       obtain rfl := RV_int.1 sD
       obtain ⟨l5, z9, h⟩ := bsome h
       rcases csome h with ⟨i3, h⟩ | ⟨i3, h⟩
       ·refine E_drawL (g := aB) (n := 26) [(10, (fun v g w => v = .bool (l5)))] [0, 1, 2, 3, 4, 5, 6, 7, 8, 9, 10, 11, 12, 13, 14, 15, 16, 17, 18, 19, 20, 21, 22, 23, 24, 25] rfl mixed (by kernel_rfl) (⟨fun _ => up_eq _, trivial⟩) ?_
        refine L_p up1 rfl rfl (P_move i6) ?_
        refine L_p (.int .i64 (o0)) rfl rfl (P_move v6) ?_
        refine L_p (ePtr up1 o0 2) rfl rfl (P_indexAddr (α := BoxPick) Try.underlying30 Try.sizeOf83 rfl u3 rfl m7) ?_
        refine L_p (fPtr (ePtr up1 o0 2) 0) rfl rfl (P_fieldAddr at_83_0 rfl (PT.ptr x8)) ?_
        refine L_ld (c := .int .i64 ((x6).Left)) rfl rfl .plain (fun _ _ h => h.ch) l9 rfl ?_
        refine L_p (fPtr p1 0) rfl rfl (P_fieldAddr at_25_0 j6 (PT.ptr i5)) ?_
        refine L_ld (c := i8) rfl rfl .plain (fun _ _ h => h.ch) n9 rfl ?_
        refine L_p (ePtr i8 (0 : Int) 1) rfl rfl (P_indexAddr (α := Int) Try.underlying22 Try.sizeOf3 rfl a9 rfl k8) ?_
        refine L_ld (c := .int .i64 (x5)) rfl rfl .plain (fun _ _ h => h.ch) u9 rfl ?_
        refine L_p (.int .i64 ((w64 (x5 - (1 : Int))))) rfl rfl (P_int rfl rfl rfl) ?_
        refine L_do (φ := fun v g w => v = .bool (l5)) rfl rfl .plain (fun g w hd => D_call (g := g) (vs := [.int .i64 ((x6).Left), .int .i64 (0), .int .i64 ((w64 (x5 - (1 : Int))))]) en59 (.cons rfl (.cons rfl (.cons rfl .nil))) (wk59  z9) fun g' w' v hs hr => ⟨g', hs, hr⟩) (fun tD hv => ?_)
        obtain ⟨_, _, _, rfl⟩ := hv
        refine L_p (.bool (!l5)) rfl rfl (P_not rfl) ?_
        refine L_p (.bool (!l5)) rfl rfl (P_move rfl) ?_
        iterate 12 refine L_s rfl rfl rfl i3 rfl ?_
        refine L_p (.bool true) rfl rfl (P_pick (b := (!l5)) rfl (pick_t i3 rfl)) ?_
        refine L_nl fun uD yE hs => ?_
        have hfr := hfr.ext hs
        have u3 := u3.ext hs
        have i5 := i5.ext hs
        clear hs
        refine EL_nil ?_
        obtain rfl := sinj h
        exact hQ _ _ ⟨uD, hfr, i6, u3, j6, i5, v6, rfl⟩
       ·obtain ⟨i7, bA, h⟩ := bsome h
        have dB := PT_idx u3 bA
        have vD := PT_field (part_BoxPick_1).1 dB
        refine L_load (x := .tmp 37) Try.isAgg3 Try.sizeOf3 vD fun zE xD cD => ?_
        obtain rfl := RV_int.1 xD
        have yD := PT_field (part_BoxLoom_0).1 i5
        refine L_load (x := .tmp 39) Try.isAgg22 Try.sizeOf22 yD fun iB jB eD => ?_
        obtain ⟨a7, gA, h⟩ := bsome h
        have zD := PT_idx jB gA
        refine L_load (x := .tmp 41) Try.isAgg3 Try.sizeOf3 zD fun cF aE gD => ?_
        obtain rfl := RV_int.1 aE
        obtain ⟨y6, iD, h⟩ := bsome h
        refine E_drawL (g := aB) (n := 26) [(10, (fun v g w => v = .bool (l5))), (23, (fun v g w => v = .bool (y6)))] [0, 1, 2, 3, 4, 5, 6, 7, 8, 9, 10, 11, 12, 13, 14, 15, 16, 17, 18, 19, 20, 21, 22, 23, 24, 25] rfl mixed (by kernel_rfl) (⟨fun _ => up_eq _, fun _ => up_eq _, trivial⟩) ?_
        refine L_p up1 rfl rfl (P_move i6) ?_
        refine L_p (.int .i64 (o0)) rfl rfl (P_move v6) ?_
        refine L_p (ePtr up1 o0 2) rfl rfl (P_indexAddr (α := BoxPick) Try.underlying30 Try.sizeOf83 rfl u3 rfl m7) ?_
        refine L_p (fPtr (ePtr up1 o0 2) 0) rfl rfl (P_fieldAddr at_83_0 rfl (PT.ptr x8)) ?_
        refine L_ld (c := .int .i64 ((x6).Left)) rfl rfl .plain (fun _ _ h => h.ch) l9 rfl ?_
        refine L_p (fPtr p1 0) rfl rfl (P_fieldAddr at_25_0 j6 (PT.ptr i5)) ?_
        refine L_ld (c := i8) rfl rfl .plain (fun _ _ h => h.ch) n9 rfl ?_
        refine L_p (ePtr i8 (0 : Int) 1) rfl rfl (P_indexAddr (α := Int) Try.underlying22 Try.sizeOf3 rfl a9 rfl k8) ?_
        refine L_ld (c := .int .i64 (x5)) rfl rfl .plain (fun _ _ h => h.ch) u9 rfl ?_
        refine L_p (.int .i64 ((w64 (x5 - (1 : Int))))) rfl rfl (P_int rfl rfl rfl) ?_
        refine L_do (φ := fun v g w => v = .bool (l5)) rfl rfl .plain (fun g w hd => D_call (g := g) (vs := [.int .i64 ((x6).Left), .int .i64 (0), .int .i64 ((w64 (x5 - (1 : Int))))]) en59 (.cons rfl (.cons rfl (.cons rfl .nil))) (wk59  z9) fun g' w' v hs hr => ⟨g', hs, hr⟩) (fun tD hv => ?_)
        obtain ⟨_, _, _, rfl⟩ := hv
        refine L_p (.bool (!l5)) rfl rfl (P_not rfl) ?_
        refine L_p (.bool (!l5)) rfl rfl (P_move rfl) ?_
        refine L_y up1 rfl rfl rfl rfl i3 (P_move i6) ?_
        refine L_y (.int .i64 (o0)) rfl rfl rfl rfl i3 (P_move v6) ?_
        refine L_y (ePtr up1 o0 2) rfl rfl rfl rfl i3 (P_indexAddr (α := BoxPick) Try.underlying30 Try.sizeOf83 rfl u3 rfl bA) ?_
        refine L_y (fPtr (ePtr up1 o0 2) 1) rfl rfl rfl rfl i3 (P_fieldAddr at_83_1 rfl (PT.ptr dB)) ?_
        refine L_ld (c := .int .i64 ((i7).Right)) rfl rfl (.yes2 rfl rfl i3) (fun _ _ h => h.ch) cD rfl ?_
        refine L_y (fPtr p1 0) rfl rfl rfl rfl i3 (P_fieldAddr at_25_0 j6 (PT.ptr i5)) ?_
        refine L_ld (c := iB) rfl rfl (.yes2 rfl rfl i3) (fun _ _ h => h.ch) eD rfl ?_
        refine L_y (ePtr iB (1 : Int) 1) rfl rfl rfl rfl i3 (P_indexAddr (α := Int) Try.underlying22 Try.sizeOf3 rfl jB rfl gA) ?_
        refine L_ld (c := .int .i64 (a7)) rfl rfl (.yes2 rfl rfl i3) (fun _ _ h => h.ch) gD rfl ?_
        refine L_y (.int .i64 ((w64 (a7 - (1 : Int))))) rfl rfl rfl rfl i3 (P_int rfl rfl rfl) ?_
        refine L_do (φ := fun v g w => v = .bool (y6)) rfl rfl (.yes2 rfl rfl i3) (fun g w hd => D_call (g := g) (vs := [.int .i64 ((i7).Right), .int .i64 (0), .int .i64 ((w64 (a7 - (1 : Int))))]) en59 (.cons rfl (.cons rfl (.cons rfl .nil))) (wk59  iD) fun g' w' v hs hr => ⟨g', hs, hr⟩) (fun dF hv => ?_)
        obtain ⟨_, _, _, rfl⟩ := hv
        refine L_y (.bool (!y6)) rfl rfl rfl rfl i3 (P_not rfl) ?_
        refine L_p (.bool (!y6)) rfl rfl (P_pick (b := (!l5)) rfl (pick_f i3 rfl)) ?_
        refine L_nl fun bE eF hs => ?_
        have hfr := hfr.ext hs
        have u3 := u3.ext hs
        have i5 := i5.ext hs
        clear hs
        refine EL_nil ?_
        obtain rfl := sinj h
        exact hQ _ _ ⟨bE, hfr, i6, u3, j6, i5, v6, rfl⟩
      ·clear hx
       obtain ⟨cE, hfr, lB, mB, nB, oB, tB, d7⟩ := hR
       rcases csome h with ⟨l8, h⟩ | ⟨l8, h⟩
       ·refine E_cond_true (Eq.trans (show ev _ _ = .bool (t5) from d7) (congrArg Value.bool l8)) ?_
        refine E_seq (E_region (EL_at (.int .i64 (2)) rfl rfl ?_))
        refine EL_nil (thn_n (E_ret (blk_r ?_)))
        refine thn_r ?_
        refine thn_r ?_
        refine blk_r ?_
        refine thn_r ?_
        obtain rfl := sinj h
        exact end1 rfl rfl (show _ = .int .i64 (2) from rfl) ⟨_, hfr, rfl⟩
       ·refine E_cond_false (Eq.trans (show ev _ _ = .bool (t5) from d7) (congrArg Value.bool l8)) ?_
        exact E_skip (blk_n (thn_n (bD () _ _ ⟨cE, hfr, lB, mB, nB, oB, tB⟩ h)))
     ·rintro _ mE iF ⟨dE, hfr, vB, yB, zB, aC, cC⟩ h
      refine E_region (EL_mv cC rfl ?_)
      refine EL_in (.int .i64 ((w64 (o0 + (1 : Int))))) rfl rfl rfl rfl ?_
      refine EL_at (.int .i64 ((w64 (o0 + (1 : Int))))) rfl rfl ?_
      exact EL_nil (thn_n (vC ((w64 (o0 + (1 : Int)))) _ _ ⟨dE, hfr, vB, yB, zB, aC, rfl⟩ h))
   ·rintro _ nE nF ⟨oF, hfr⟩ h
    refine E_seq (E_region (EL_at (.int .i64 (0)) rfl rfl ?_))
    refine EL_nil (thn_n (E_ret ?_))
    obtain rfl := sinj h
    exact end1 rfl rfl (show _ = .int .i64 (0) from rfl) ⟨_, hfr, rfl⟩
theorem W50 {iO : Nat} {gI : Gh} {wI : World} {x0 : BoxLoom} {up0 : Value} (rp0 : RV gI.m wI x0 up0) {r : BoxLoom} (h : f50 x0 = some r) : FnG Try.prog 50 #[up0] gI wI (fun g w v => OWx ow_BoxLoom iO g w r v) := by
 unfold f50 at h
 refine fnG_of_E Try.func50 rfl (Nat.le_of_ble_eq_true rfl) fun g0 hm hfr => ?_
 have rp0 : RV g0.m wI x0 up0 := hm ▸ rp0
 show E _ 16 none _ _ _ _ _
 refine E_seq (E_region (EL_do .plain rfl (D_box (g := g0) rfl rp0 fun g1 w1 p1 hs q1 => ?_)))
 have hfr := hfr.ext hs
 refine EL_do .plain rfl (D_allocOc (g := g1) 2002 (⟨[], [], []⟩ : BoxLoom) Try.zeroValue25 (fun m w => ⟨_, (rep_two rep_nil (rep_two rep_nil rep_nil)), rfl⟩) fun g2 w2 p2 hs b2 cb => ?_)
 have hfr := hfr.stp hs
 have q1 := q1.stp hs
 have l8 : OSF 2002 60200 0 g2 w2 3 25 ([] : List Int) p2 := cb.osf (by rfl)
 have m8 : OSF 2002 60201 1 g2 w2 3 25 ([] : List Int) p2 := cb.osf (by rfl)
 have n8 : OSF 2002 60202 2 g2 w2 87 25 ([] : List BoxShuttle) p2 := cb.osf (by rfl)
 clear cb
 refine EL_nil (thn_n (E_seq ?_))
 have q4 := PT_field (part_BoxLoom_0).1 q1
 refine L_load (x := .tmp 4) Try.isAgg22 Try.sizeOf22 q4 fun v5 r5 d7 => ?_
 obtain ⟨y7, i7, h⟩ := bsome h
 have q9 := PT_field (part_BoxLoom_1).1 q1
 refine L_load (x := .tmp 8) Try.isAgg22 Try.sizeOf22 q9 fun j7 m7 i6 => ?_
 obtain ⟨i3, j6, h⟩ := bsome h
 have v7 := PT_field (part_BoxLoom_2).1 q1
 refine L_load (x := .tmp 12) Try.isAgg23 Try.sizeOf23 v7 fun g8 i8 x6 => ?_
 obtain ⟨u3, y6, h⟩ := bsome h
 refine E_drawL (g := g2) (n := 12) [(0, (fun v g w => RV g.m w ([] : List Int) v ∧ OS 3003 g w 3 ([] : List Int) v ∧ FullV v)), (3, (fun v g w => OA 3003 g w 3 y7 v)), (4, (fun v g w => RV g.m w ([] : List Int) v ∧ OS 3007 g w 3 ([] : List Int) v ∧ FullV v)), (7, (fun v g w => OA 3007 g w 3 i3 v)), (8, (fun v g w => RV g.m w ([] : List BoxShuttle) v ∧ OS 3011 g w 87 ([] : List BoxShuttle) v ∧ FullV v)), (11, (fun v g w => OA 3011 g w 87 u3 v))] [0, 1, 2, 3, 4, 5, 6, 7, 8, 9, 10, 11] rfl mixed (by kernel_rfl) (⟨fun _ => up_and up_rv (up_and up_os (up_eq _)), fun _ => up_oa, fun _ => up_and up_rv (up_and up_os (up_eq _)), fun _ => up_oa, fun _ => up_and up_rv (up_and up_os (up_eq _)), fun _ => up_oa, trivial⟩) ?_
 refine L_do (φ := fun v g w => RV g.m w ([] : List Int) v ∧ OS 3003 g w 3 ([] : List Int) v ∧ FullV v) rfl rfl .plain (fun g w hd => D_buildSlice (g := g) 3003 (xs := ([] : List Int)) (vs := []) Try.underlying22 Try.sizeOf3 Try.zeroValue3 rfl rfl .nil RVs.nil rfl rfl fun g' w' v hs o r hxt hfl => ⟨g', hxt, r, o, hfl⟩) (fun v3 hv => ?_)
 clear hv
 refine L_p (fPtr p1 0) rfl rfl (P_fieldAddr at_25_0 rfl (PT.ptr q1)) ?_
 refine L_ld (c := v5) rfl rfl .plain (fun _ _ h => h.ch) d7 rfl ?_
 refine L_do (φ := fun v g w => OA 3003 g w 3 y7 v) rfl rfl .plain (fun g w hd => D_appendE (g := g) plain_int (i := 3003) Try.underlying22 info_3 rfl rfl (word (A := fun g w => RV g.m w ([] : List Int) v3 ∧ OS 3003 g w 3 ([] : List Int) v3 ∧ FullV v3) 0 rfl rfl (deps_of hd)).2.1 (word (A := fun g w => RV g.m w ([] : List Int) v3 ∧ OS 3003 g w 3 ([] : List Int) v3 ∧ FullV v3) 0 rfl rfl (deps_of hd)).2.2 rfl (r5.ext hd.1) i7 fun g' w' v hs b => ⟨g', hs, b⟩) (fun v6 hv => ?_)
 clear hv
 refine L_do (φ := fun v g w => RV g.m w ([] : List Int) v ∧ OS 3007 g w 3 ([] : List Int) v ∧ FullV v) rfl rfl .plain (fun g w hd => D_buildSlice (g := g) 3007 (xs := ([] : List Int)) (vs := []) Try.underlying22 Try.sizeOf3 Try.zeroValue3 rfl rfl .nil RVs.nil rfl rfl fun g' w' v hs o r hxt hfl => ⟨g', hxt, r, o, hfl⟩) (fun v8 hv => ?_)
 clear hv
 refine L_p (fPtr p1 1) rfl rfl (P_fieldAddr at_25_1 rfl (PT.ptr q1)) ?_
 refine L_ld (c := j7) rfl rfl .plain (fun _ _ h => h.ch) i6 rfl ?_
 refine L_do (φ := fun v g w => OA 3007 g w 3 i3 v) rfl rfl .plain (fun g w hd => D_appendE (g := g) plain_int (i := 3007) Try.underlying22 info_3 rfl rfl (word (A := fun g w => RV g.m w ([] : List Int) v8 ∧ OS 3007 g w 3 ([] : List Int) v8 ∧ FullV v8) 4 rfl rfl (deps_of hd)).2.1 (word (A := fun g w => RV g.m w ([] : List Int) v8 ∧ OS 3007 g w 3 ([] : List Int) v8 ∧ FullV v8) 4 rfl rfl (deps_of hd)).2.2 rfl (m7.ext hd.1) j6 fun g' w' v hs b => ⟨g', hs, b⟩) (fun i5 hv => ?_)
 clear hv
 refine L_do (φ := fun v g w => RV g.m w ([] : List BoxShuttle) v ∧ OS 3011 g w 87 ([] : List BoxShuttle) v ∧ FullV v) rfl rfl .plain (fun g w hd => D_buildSlice (g := g) 3011 (xs := ([] : List BoxShuttle)) (vs := []) Try.underlying23 Try.sizeOf87 Try.zeroValue87 rfl rfl .nil RVs.nil rfl rfl fun g' w' v hs o r hxt hfl => ⟨g', hxt, r, o, hfl⟩) (fun o0 hv => ?_)
 clear hv
 refine L_p (fPtr p1 2) rfl rfl (P_fieldAddr at_25_2 rfl (PT.ptr q1)) ?_
 refine L_ld (c := g8) rfl rfl .plain (fun _ _ h => h.ch) x6 rfl ?_
 refine L_do (φ := fun v g w => OA 3011 g w 87 u3 v) rfl rfl .plain (fun g w hd => D_appendE (g := g) plain_BoxShuttle (i := 3011) Try.underlying23 info_87 rfl rfl (word (A := fun g w => RV g.m w ([] : List BoxShuttle) o0 ∧ OS 3011 g w 87 ([] : List BoxShuttle) o0 ∧ FullV o0) 8 rfl rfl (deps_of hd)).2.1 (word (A := fun g w => RV g.m w ([] : List BoxShuttle) o0 ∧ OS 3011 g w 87 ([] : List BoxShuttle) o0 ∧ FullV o0) 8 rfl rfl (deps_of hd)).2.2 rfl (i8.ext hd.1) y6 fun g' w' v hs b => ⟨g', hs, b⟩) (fun l5 hv => ?_)
 clear hv
 refine L_nil fun q8 k8 hall => ?_
 have hs := hall.1
 have hfr := hfr.ext hs
 have b2 := b2.ext hs
 have r8 := (word_all (A := fun g w => RV g.m w ([] : List Int) v3 ∧ OS 3003 g w 3 ([] : List Int) v3 ∧ FullV v3) 0 rfl hall).1
 have o22 := (word_all (A := fun g w => RV g.m w ([] : List Int) v3 ∧ OS 3003 g w 3 ([] : List Int) v3 ∧ FullV v3) 0 rfl hall).2.1
 have b25 := (word_all (A := fun g w => OA 3003 g w 3 y7 v6) 3 rfl hall)
 have t8 := (word_all (A := fun g w => RV g.m w ([] : List Int) v8 ∧ OS 3007 g w 3 ([] : List Int) v8 ∧ FullV v8) 4 rfl hall).1
 have o26 := (word_all (A := fun g w => RV g.m w ([] : List Int) v8 ∧ OS 3007 g w 3 ([] : List Int) v8 ∧ FullV v8) 4 rfl hall).2.1
 have b29 := (word_all (A := fun g w => OA 3007 g w 3 i3 i5) 7 rfl hall)
 have x8 := (word_all (A := fun g w => RV g.m w ([] : List BoxShuttle) o0 ∧ OS 3011 g w 87 ([] : List BoxShuttle) o0 ∧ FullV o0) 8 rfl hall).1
 have o30 := (word_all (A := fun g w => RV g.m w ([] : List BoxShuttle) o0 ∧ OS 3011 g w 87 ([] : List BoxShuttle) o0 ∧ FullV o0) 8 rfl hall).2.1
 have b33 := (word_all (A := fun g w => OA 3011 g w 87 u3 l5) 11 rfl hall)
 clear hs hall
 obtain ⟨sk35, ow35, ok35⟩ := OA.toW b25
 obtain ⟨sk36, ow36, ok36⟩ := OA.toW b29
 obtain ⟨sk37, ow37, ok37⟩ := OA.toW b33
 have wn38 := Wn.fl (OW.wn ow37)
 obtain ⟨gq39, hs, _, wn39⟩ := Wn.pair (OW.wn ow36) wn38 rfl
 have hfr := hfr.stp hs
 have b2 := b2.stp hs rfl
 have ow35 := ow35.stp hs rfl
 obtain ⟨gq40, hs, _, wn40⟩ := Wn.pair (OW.wn ow35) wn39 rfl
 have hfr := hfr.stp hs
 have b2 := b2.stp hs rfl
 obtain ⟨x5, t5⟩ : ∃ v, v = (Value.agg (setCh [[.slice none 0 0], [.slice none 0 0], [.slice none 0 0]] [(0, v6), (1, i5), (2, l5)]).flatten.toArray) := ⟨_, rfl⟩
 have ow34 : OW ow_BoxLoom 3011 gq40 k8 (⟨y7, i3, u3⟩ : BoxLoom) (sk35, (sk36, sk37)) x5 := t5 ▸ Wn.mk_ (Wn.struct (x := ((⟨y7, i3, u3⟩ : BoxLoom))) wn40)
 refine EL_p x5 (t5 ▸ P_build (vs := [(0, v6), (1, i5), (2, l5)]) [[.slice none 0 0], [.slice none 0 0], [.slice none 0 0]] lay_25 rfl rfl (.cons rfl (.cons rfl (.cons rfl .nil))) ⟨⟨_, rfl, OW.csz ow35⟩, ⟨⟨_, rfl, OW.csz ow36⟩, ⟨⟨_, rfl, OW.csz ow37⟩, trivial⟩⟩⟩) rfl ?_
 refine EL_do .plain rfl (D_storeOW (g := gq40) Try.sizeOf25 rfl b2 rfl ow34 rfl fun gj41 a9 d9 bk41 hsa hsb hpp b41 => ?_)
 have hfr := hfr.stp hsa
 have hfr := hfr.stp hsb
 clear hsa hsb
 subst hpp
 refine EL_nil (thn_n (E_ret ?_))
 obtain rfl := sinj h
 obtain ⟨k9, a7, ow42⟩ := OV.read (t := 25) Try.isAgg25 Try.sizeOf25 b41 rfl
 obtain ⟨gh, hxh, _, homh⟩ := OW.hand (i := iO) hfr ow42 (⟨ok35, ⟨ok36, ok37⟩⟩ : (ow_BoxLoom).ok (sk35, (sk36, sk37)))
 exact endm_c rfl rfl (show _ = (Value.pointer (some ⟨bk41, 0, none⟩)) from rfl) a7 ⟨gh, hxh, homh⟩
def f86 (x0 : List BoxShuttle) (x1 : BoxShuttle → Option Bool) : Option (Bool) :=
 (f102 x0 x1).bind fun y2 =>
 some ((decide (y2 ≥ (0 : Int))))
theorem en86 : Enters Try.prog 86 := enters_of Try.func86 (by kernel_rfl) rfl
theorem wk86 {gI : Gh} {wI : World} {x0 : List BoxShuttle} {x1 : BoxShuttle → Option Bool} {up0 : Value} (rp0 : RV gI.m wI x0 up0) {up1 : Value} (rp1 : FnV1 Try.prog x1 up1 gI wI) {r : Bool} (h : f86 x0 x1 = some r) : Fn Try.prog 86 #[up0, up1] gI wI (fun _ _ v => v = .bool (r)) := by
 unfold f86 at h
 refine fn_of_E Try.func86 rfl (Nat.le_of_ble_eq_true rfl) fun g0 hm hfr => ?_
 have rp0 : RV g0.m wI x0 up0 := hm ▸ rp0
 obtain ⟨ff1, fa1, fc1, rfl, fen1, fcl1⟩ := rp1
 show E _ 9 none _ _ _ _ _
 refine E_seq (E_region (EL_at (.bool false) rfl rfl ?_))
 refine EL_nil (thn_n (E_seq (E_region (EL_mw up0 rfl rfl ?_))))
 refine EL_mw ((.func (.func ff1) fa1 fc1)) rfl rfl ?_
 obtain ⟨y2, hy2, h⟩ := bsome h
 refine EL_do .plain rfl (D_call (g := g0) (vs := [up0, (.func (.func ff1) fa1 fc1)]) en102 (.cons rfl (.cons rfl .nil)) (wk102 rp0 (FnV1.ch ⟨_, _, _, rfl, fen1, fcl1⟩ hfr.ch) hy2) fun g1 w1_ v1 hs hr => ?_)
 have hfr := hfr.ext hs
 subst hr
 refine EL_in (.bool ((decide (y2 ≥ (0 : Int))))) rfl rfl rfl rfl ?_
 refine EL_at (.bool ((decide (y2 ≥ (0 : Int))))) rfl rfl ?_
 refine EL_nil (thn_n (E_ret ?_))
 obtain rfl := sinj h
 exact end1 rfl rfl (show _ = .bool ((decide (y2 ≥ (0 : Int)))) from rfl) ⟨_, hfr, rfl⟩
def f87 (x0 : Int) (x1 : Int) (x2 : List Int) : Option (Bool) :=
 (f103 x2 ((fun a0 => f104 a0 x0 x1))).bind fun y4 =>
 some ((!y4))
theorem en87 : Enters Try.prog 87 := enters_of Try.func87 (by kernel_rfl) rfl
theorem wk87 {gI : Gh} {wI : World} {x0 : Int} {x1 : Int} {x2 : List Int} {up2 : Value} (rp2 : RV gI.m wI x2 up2) {r : Bool} (h : f87 x0 x1 x2 = some r) : Fn Try.prog 87 #[.int .i64 (x0), .int .i64 (x1), up2] gI wI (fun _ _ v => v = .bool (r)) := by
 unfold f87 at h
 refine fn_of_E Try.func87 rfl (Nat.le_of_ble_eq_true rfl) fun g0 hm hfr => ?_
 have rp2 : RV g0.m wI x2 up2 := hm ▸ rp2
 show E _ 11 none _ _ _ _ _
 refine E_seq (E_region (EL_do .plain rfl (D_box (g := g0) rfl (RV_int.2 rfl) fun g1 w1 p1 hs q1 => ?_)))
 have hfr := hfr.ext hs
 have rp2 := rp2.ext hs
 refine EL_do .plain rfl (D_box (g := g1) rfl (RV_int.2 rfl) fun g2 w2 p2 hs q2 => ?_)
 have hfr := hfr.ext hs
 have rp2 := rp2.ext hs
 have q1 := q1.ext hs
 refine EL_at (.bool false) rfl rfl ?_
 refine EL_nil (thn_n (E_seq (E_region (EL_mw up2 rfl rfl ?_))))
 refine EL_p ((.func (.func 104) #[] #[p1, p2])) (P_makeFunc (capf_0_2 (show ev _ _ = p1 from rfl) (show ev _ _ = p2 from rfl))) rfl ?_
 obtain ⟨y4, o0, h⟩ := bsome h
 refine EL_do .plain rfl (D_call (g := g2) (vs := [up2, (.func (.func 104) #[] #[p1, p2])]) en103 (.cons rfl (.cons rfl .nil)) (wk103 rp2 ⟨104, #[], #[p1, p2], rfl, en104, fun g' w' hch a0 b0 r hu0 hr => by obtain rfl := RV_int.1 hu0; exact Fn.mono (wk104  (q1.ch hch) (q2.ch hch) hr) fun _ _ _ h => RV_bool.2 h⟩ o0) fun g3 w3_ v3 hs hr => ?_)
 have hfr := hfr.ext hs
 subst hr
 refine EL_p (.bool (!y4)) (P_not rfl) rfl ?_
 refine EL_at (.bool (!y4)) rfl rfl ?_
 refine EL_nil (thn_n (E_ret ?_))
 obtain rfl := sinj h
 exact end1 rfl rfl (show _ = .bool (!y4) from rfl) ⟨_, hfr, rfl⟩
def f95 (x0 : BoxPick) (z0 : BoxBoxLoom) : Option (Bool) :=
 Option.bind (α := Bool) (
  (idx (((z0).BoxLoom).Boxes) (0 : Int)).bind fun t5 =>
  (f87 ((0 : Int)) ((w64 (t5 - (1 : Int)))) (([(x0).Left] : List Int))).bind fun i5 =>
  bif (!i5) then
   some (true)
  else
   (idx (((z0).BoxLoom).Boxes) (1 : Int)).bind fun x5 =>
   (f87 ((0 : Int)) ((w64 (x5 - (1 : Int)))) (([(x0).Right] : List Int))).bind fun y135 =>
   some ((!y135))
  ) fun l5 =>
 some (l5)
theorem en95 : Enters Try.prog 95 := enters_of Try.func95 (by kernel_rfl) rfl
theorem wk95 {gI : Gh} {wI : World} {x0 : BoxPick} {z0 : BoxBoxLoom} {up0 : Value} (rp0 : RV gI.m wI x0 up0) {pf0 : Value} (qf0 : PT gI.m wI z0 pf0) {r : Bool} (h : f95 x0 z0 = some r) : Fn Try.prog 95 #[up0, pf0] gI wI (fun _ _ v => v = .bool (r)) := by
 unfold f95 at h
 refine fn_of_E Try.func95 rfl (Nat.le_of_ble_eq_true rfl) fun g0 hm hfr => ?_
 have qf0 : PT g0.m wI z0 pf0 := hm ▸ qf0
 have rp0 : RV g0.m wI x0 up0 := hm ▸ rp0
 show E _ 28 none _ _ _ _ _
 refine E_seq (E_region (EL_do .plain rfl (D_box (g := g0) rfl rp0 fun g1 w1 p1 hs q1 => ?_)))
 have hfr := hfr.ext hs
 have qf0 := qf0.ext hs
 refine EL_at (.bool false) rfl rfl ?_
 refine EL_nil (thn_n ?_)
 obtain ⟨l5, hx, h⟩ := bsome h
 refine E_join (fun e w => ∃ (g : Gh) , Fr gI wI g w ∧ e 3 = .bool (l5)) (fun Q' hQ => ?_) (fun bA gA hR => ?_)
 ·replace h := hx
  clear hx
  have x6 := PT_field (part_BoxBoxLoom_0).1 qf0
  have d9 := PT_field (part_BoxLoom_0).1 x6
  refine L_load (x := .tmp 5) Try.isAgg22 Try.sizeOf22 d9 fun j6 y6 a7 => ?_
  obtain ⟨t5, i6, h⟩ := bsome h
  have k9 := PT_idx y6 i6
  refine L_load (x := .tmp 7) Try.isAgg3 Try.sizeOf3 k9 fun dB l9 d7 => ?_
  obtain rfl := RV_int.1 l9
  have n9 := PT_field (part_BoxPick_0).1 q1
  refine L_load (x := .tmp 10) Try.isAgg3 Try.sizeOf3 n9 fun iB u9 i7 => ?_
  obtain rfl := RV_int.1 u9
  obtain ⟨i5, j7, h⟩ := bsome h
  rcases csome h with ⟨i3, h⟩ | ⟨i3, h⟩
  ·refine E_drawL (g := g1) (n := 25) [(8, (fun v g w => RV g.m w ([(x0).Left] : List Int) v ∧ OS 3012 g w 3 ([(x0).Left] : List Int) v ∧ FullV v)), (9, (fun v g w => v = .bool (i5)))] [0, 1, 2, 3, 4, 5, 6, 7, 8, 9, 10, 11, 12, 13, 14, 15, 16, 17, 18, 19, 20, 21, 22, 23, 24] rfl mixed (by kernel_rfl) (⟨fun _ => up_and up_rv (up_and up_os (up_eq _)), fun _ => up_eq _, trivial⟩) ?_
   refine L_p (fPtr pf0 0) rfl rfl (P_fieldAddr at_102_0 rfl (PT.ptr qf0)) ?_
   refine L_p (fPtr (fPtr pf0 0) 0) rfl rfl (P_fieldAddr at_25_0 rfl (PT.ptr x6)) ?_
   refine L_ld (c := j6) rfl rfl .plain (fun _ _ h => h.ch) a7 rfl ?_
   refine L_p (ePtr j6 (0 : Int) 1) rfl rfl (P_indexAddr (α := Int) Try.underlying22 Try.sizeOf3 rfl y6 rfl i6) ?_
   refine L_ld (c := .int .i64 (t5)) rfl rfl .plain (fun _ _ h => h.ch) d7 rfl ?_
   refine L_p (.int .i64 ((w64 (t5 - (1 : Int))))) rfl rfl (P_int rfl rfl rfl) ?_
   refine L_p (fPtr p1 0) rfl rfl (P_fieldAddr at_83_0 rfl (PT.ptr q1)) ?_
   refine L_ld (c := .int .i64 ((x0).Left)) rfl rfl .plain (fun _ _ h => h.ch) i7 rfl ?_
   refine L_do (φ := fun v g w => RV g.m w ([(x0).Left] : List Int) v ∧ OS 3012 g w 3 ([(x0).Left] : List Int) v ∧ FullV v) rfl rfl .plain (fun g w hd => D_buildSlice (g := g) 3012 (xs := ([(x0).Left] : List Int)) (vs := [.int .i64 ((x0).Left)]) Try.underlying22 Try.sizeOf3 Try.zeroValue3 rfl rfl (.cons rfl .nil) (RVs.cons (RV_int.2 rfl) RVs.nil) rfl rfl fun g' w' v hs o r hxt hfl => ⟨g', hxt, r, o, hfl⟩) (fun o0 hv => ?_)
   clear hv
   refine L_do (φ := fun v g w => v = .bool (i5)) rfl rfl .plain (fun g w hd => D_call (g := g) (vs := [.int .i64 (0), .int .i64 ((w64 (t5 - (1 : Int)))), o0]) en87 (.cons rfl (.cons rfl (.cons rfl .nil))) (wk87 (word (A := fun g w => RV g.m w ([(x0).Left] : List Int) o0 ∧ OS 3012 g w 3 ([(x0).Left] : List Int) o0 ∧ FullV o0) 8 rfl rfl (deps_of hd)).1 j7) fun g' w' v hs hr => ⟨g', hs, hr⟩) (fun y9 hv => ?_)
   obtain ⟨_, _, _, rfl⟩ := hv
   refine L_p (.bool (!i5)) rfl rfl (P_not rfl) ?_
   refine L_p (.bool (!i5)) rfl rfl (P_move rfl) ?_
   iterate 11 refine L_s rfl rfl rfl i3 rfl ?_
   refine L_p (.bool true) rfl rfl (P_pick (b := (!i5)) rfl (pick_t i3 rfl)) ?_
   refine L_p (.bool true) rfl rfl (P_assign rfl) ?_
   refine L_nil fun z9 jB hall => ?_
   have hs := hall.1
   have hfr := hfr.ext hs
   have iA := (word_all (A := fun g w => RV g.m w ([(x0).Left] : List Int) o0 ∧ OS 3012 g w 3 ([(x0).Left] : List Int) o0 ∧ FullV o0) 8 rfl hall).1
   have o109 := (word_all (A := fun g w => RV g.m w ([(x0).Left] : List Int) o0 ∧ OS 3012 g w 3 ([(x0).Left] : List Int) o0 ∧ FullV o0) 8 rfl hall).2.1
   clear hs hall
   refine EL_nil ?_
   obtain rfl := sinj h
   exact hQ _ _ ⟨z9, hfr, rfl⟩
  ·have m7 := PT_field (part_BoxBoxLoom_0).1 qf0
   have q8 := PT_field (part_BoxLoom_0).1 m7
   refine L_load (x := .tmp 17) Try.isAgg22 Try.sizeOf22 q8 fun v7 g8 k8 => ?_
   obtain ⟨x5, v6, h⟩ := bsome h
   have r8 := PT_idx g8 v6
   refine L_load (x := .tmp 19) Try.isAgg3 Try.sizeOf3 r8 fun jA t8 l8 => ?_
   obtain rfl := RV_int.1 t8
   have v8 := PT_field (part_BoxPick_1).1 q1
   refine L_load (x := .tmp 22) Try.isAgg3 Try.sizeOf3 v8 fun mA x8 m8 => ?_
   obtain rfl := RV_int.1 x8
   obtain ⟨y135, n8, h⟩ := bsome h
   refine E_drawL (g := g1) (n := 25) [(8, (fun v g w => RV g.m w ([(x0).Left] : List Int) v ∧ OS 3012 g w 3 ([(x0).Left] : List Int) v ∧ FullV v)), (9, (fun v g w => v = .bool (i5))), (20, (fun v g w => RV g.m w ([(x0).Right] : List Int) v ∧ OS 3024 g w 3 ([(x0).Right] : List Int) v ∧ FullV v)), (21, (fun v g w => v = .bool (y135)))] [0, 1, 2, 3, 4, 5, 6, 7, 8, 9, 10, 11, 12, 13, 14, 15, 16, 17, 18, 19, 20, 21, 22, 23, 24] rfl mixed (by kernel_rfl) (⟨fun _ => up_and up_rv (up_and up_os (up_eq _)), fun _ => up_eq _, fun _ => up_and up_rv (up_and up_os (up_eq _)), fun _ => up_eq _, trivial⟩) ?_
   refine L_p (fPtr pf0 0) rfl rfl (P_fieldAddr at_102_0 rfl (PT.ptr qf0)) ?_
   refine L_p (fPtr (fPtr pf0 0) 0) rfl rfl (P_fieldAddr at_25_0 rfl (PT.ptr x6)) ?_
   refine L_ld (c := j6) rfl rfl .plain (fun _ _ h => h.ch) a7 rfl ?_
   refine L_p (ePtr j6 (0 : Int) 1) rfl rfl (P_indexAddr (α := Int) Try.underlying22 Try.sizeOf3 rfl y6 rfl i6) ?_
   refine L_ld (c := .int .i64 (t5)) rfl rfl .plain (fun _ _ h => h.ch) d7 rfl ?_
   refine L_p (.int .i64 ((w64 (t5 - (1 : Int))))) rfl rfl (P_int rfl rfl rfl) ?_
   refine L_p (fPtr p1 0) rfl rfl (P_fieldAddr at_83_0 rfl (PT.ptr q1)) ?_
   refine L_ld (c := .int .i64 ((x0).Left)) rfl rfl .plain (fun _ _ h => h.ch) i7 rfl ?_
   refine L_do (φ := fun v g w => RV g.m w ([(x0).Left] : List Int) v ∧ OS 3012 g w 3 ([(x0).Left] : List Int) v ∧ FullV v) rfl rfl .plain (fun g w hd => D_buildSlice (g := g) 3012 (xs := ([(x0).Left] : List Int)) (vs := [.int .i64 ((x0).Left)]) Try.underlying22 Try.sizeOf3 Try.zeroValue3 rfl rfl (.cons rfl .nil) (RVs.cons (RV_int.2 rfl) RVs.nil) rfl rfl fun g' w' v hs o r hxt hfl => ⟨g', hxt, r, o, hfl⟩) (fun o0 hv => ?_)
   clear hv
   refine L_do (φ := fun v g w => v = .bool (i5)) rfl rfl .plain (fun g w hd => D_call (g := g) (vs := [.int .i64 (0), .int .i64 ((w64 (t5 - (1 : Int)))), o0]) en87 (.cons rfl (.cons rfl (.cons rfl .nil))) (wk87 (word (A := fun g w => RV g.m w ([(x0).Left] : List Int) o0 ∧ OS 3012 g w 3 ([(x0).Left] : List Int) o0 ∧ FullV o0) 8 rfl rfl (deps_of hd)).1 j7) fun g' w' v hs hr => ⟨g', hs, hr⟩) (fun y9 hv => ?_)
   obtain ⟨_, _, _, rfl⟩ := hv
   refine L_p (.bool (!i5)) rfl rfl (P_not rfl) ?_
   refine L_p (.bool (!i5)) rfl rfl (P_move rfl) ?_
   refine L_y (fPtr pf0 0) rfl rfl rfl rfl i3 (P_fieldAddr at_102_0 rfl (PT.ptr qf0)) ?_
   refine L_y (fPtr (fPtr pf0 0) 0) rfl rfl rfl rfl i3 (P_fieldAddr at_25_0 rfl (PT.ptr m7)) ?_
   refine L_ld (c := v7) rfl rfl (.yes2 rfl rfl i3) (fun _ _ h => h.ch) k8 rfl ?_
   refine L_y (ePtr v7 (1 : Int) 1) rfl rfl rfl rfl i3 (P_indexAddr (α := Int) Try.underlying22 Try.sizeOf3 rfl g8 rfl v6) ?_
   refine L_ld (c := .int .i64 (x5)) rfl rfl (.yes2 rfl rfl i3) (fun _ _ h => h.ch) l8 rfl ?_
   refine L_y (.int .i64 ((w64 (x5 - (1 : Int))))) rfl rfl rfl rfl i3 (P_int rfl rfl rfl) ?_
   refine L_y (fPtr p1 1) rfl rfl rfl rfl i3 (P_fieldAddr at_83_1 rfl (PT.ptr q1)) ?_
   refine L_ld (c := .int .i64 ((x0).Right)) rfl rfl (.yes2 rfl rfl i3) (fun _ _ h => h.ch) m8 rfl ?_
   refine L_do (φ := fun v g w => RV g.m w ([(x0).Right] : List Int) v ∧ OS 3024 g w 3 ([(x0).Right] : List Int) v ∧ FullV v) rfl rfl (.yes2 rfl rfl i3) (fun g w hd => D_buildSlice (g := g) 3024 (xs := ([(x0).Right] : List Int)) (vs := [.int .i64 ((x0).Right)]) Try.underlying22 Try.sizeOf3 Try.zeroValue3 rfl rfl (.cons rfl .nil) (RVs.cons (RV_int.2 rfl) RVs.nil) rfl rfl fun g' w' v hs o r hxt hfl => ⟨g', hxt, r, o, hfl⟩) (fun u3 hv => ?_)
   clear hv
   refine L_do (φ := fun v g w => v = .bool (y135)) rfl rfl (.yes2 rfl rfl i3) (fun g w hd => D_call (g := g) (vs := [.int .i64 (0), .int .i64 ((w64 (x5 - (1 : Int)))), u3]) en87 (.cons rfl (.cons rfl (.cons rfl .nil))) (wk87 (word (A := fun g w => RV g.m w ([(x0).Right] : List Int) u3 ∧ OS 3024 g w 3 ([(x0).Right] : List Int) u3 ∧ FullV u3) 20 rfl rfl (deps_of hd)).1 n8) fun g' w' v hs hr => ⟨g', hs, hr⟩) (fun pA hv => ?_)
   obtain ⟨_, _, _, rfl⟩ := hv
   refine L_y (.bool (!y135)) rfl rfl rfl rfl i3 (P_not rfl) ?_
   refine L_p (.bool (!y135)) rfl rfl (P_pick (b := (!i5)) rfl (pick_f i3 rfl)) ?_
   refine L_p (.bool (!y135)) rfl rfl (P_assign rfl) ?_
   refine L_nil fun a9 qA hall => ?_
   have hs := hall.1
   have hfr := hfr.ext hs
   have rA := (word_all (A := fun g w => RV g.m w ([(x0).Left] : List Int) o0 ∧ OS 3012 g w 3 ([(x0).Left] : List Int) o0 ∧ FullV o0) 8 rfl hall).1
   have o149 := (word_all (A := fun g w => RV g.m w ([(x0).Left] : List Int) o0 ∧ OS 3012 g w 3 ([(x0).Left] : List Int) o0 ∧ FullV o0) 8 rfl hall).2.1
   have yA := (word_all (A := fun g w => RV g.m w ([(x0).Right] : List Int) u3 ∧ OS 3024 g w 3 ([(x0).Right] : List Int) u3 ∧ FullV u3) 20 rfl hall).1
   have o161 := (word_all (A := fun g w => RV g.m w ([(x0).Right] : List Int) u3 ∧ OS 3024 g w 3 ([(x0).Right] : List Int) u3 ∧ FullV u3) 20 rfl hall).2.1
   clear hs hall
   refine EL_nil ?_
   obtain rfl := sinj h
   exact hQ _ _ ⟨a9, hfr, rfl⟩
 ·clear hx
  obtain ⟨aB, hfr, i8⟩ := hR
  refine E_ret ?_
  obtain rfl := sinj h
  exact end1 rfl rfl (show _ = .bool (l5) from i8) ⟨_, hfr, rfl⟩
def f96 (x0 : List BoxPick) (x1 : BoxPick → Option Bool) : Option (Bool) :=
 (f105 x0 x1).bind fun y2 =>
 some ((decide (y2 ≥ (0 : Int))))
theorem en96 : Enters Try.prog 96 := enters_of Try.func96 (by kernel_rfl) rfl
theorem wk96 {gI : Gh} {wI : World} {x0 : List BoxPick} {x1 : BoxPick → Option Bool} {up0 : Value} (rp0 : RV gI.m wI x0 up0) {up1 : Value} (rp1 : FnV1 Try.prog x1 up1 gI wI) {r : Bool} (h : f96 x0 x1 = some r) : Fn Try.prog 96 #[up0, up1] gI wI (fun _ _ v => v = .bool (r)) := by
 unfold f96 at h
 refine fn_of_E Try.func96 rfl (Nat.le_of_ble_eq_true rfl) fun g0 hm hfr => ?_
 have rp0 : RV g0.m wI x0 up0 := hm ▸ rp0
 obtain ⟨ff1, fa1, fc1, rfl, fen1, fcl1⟩ := rp1
 show E _ 9 none _ _ _ _ _
 refine E_seq (E_region (EL_at (.bool false) rfl rfl ?_))
 refine EL_nil (thn_n (E_seq (E_region (EL_mw up0 rfl rfl ?_))))
 refine EL_mw ((.func (.func ff1) fa1 fc1)) rfl rfl ?_
 obtain ⟨y2, hy2, h⟩ := bsome h
 refine EL_do .plain rfl (D_call (g := g0) (vs := [up0, (.func (.func ff1) fa1 fc1)]) en105 (.cons rfl (.cons rfl .nil)) (wk105 rp0 (FnV1.ch ⟨_, _, _, rfl, fen1, fcl1⟩ hfr.ch) hy2) fun g1 w1_ v1 hs hr => ?_)
 have hfr := hfr.ext hs
 subst hr
 refine EL_in (.bool ((decide (y2 ≥ (0 : Int))))) rfl rfl rfl rfl ?_
 refine EL_at (.bool ((decide (y2 ≥ (0 : Int))))) rfl rfl ?_
 refine EL_nil (thn_n (E_ret ?_))
 obtain rfl := sinj h
 exact end1 rfl rfl (show _ = .bool ((decide (y2 ≥ (0 : Int)))) from rfl) ⟨_, hfr, rfl⟩
end Go.Proofs.Ytmpjooneiaiffaa
