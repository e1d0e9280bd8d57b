import Derived.Test.YtnfjhdagbknlbaaCode1
set_option maxRecDepth 8000
set_option maxHeartbeats 4000000
namespace Go.Proofs.Ytnfjhdagbknlbaa
open Go.RowKit
def f96 (x0 : Int) (z0 : Int) (z1 : Int) : Option (Bool) :=
 Option.bind (α := Bool) (
  bif (decide (x0 < z0)) then
   some (true)
  else
   some ((decide (x0 > z1)))
  ) fun o0 =>
 some (o0)
theorem en96 : Enters Try.prog 96 := enters_of Try.func96 (by kernel_rfl) rfl
theorem wk96 {gI : Gh} {wI : World} {x0 : Int} {z0 : Int} {z1 : Int} {pf0 : Value} (qf0 : PT gI.m wI z0 pf0) {pf1 : Value} (qf1 : PT gI.m wI z1 pf1) {r : Bool} (h : f96 x0 z0 z1 = some r) : Fn Try.prog 96 #[.int .i64 (x0), pf0, pf1] gI wI (fun _ _ v => v = .bool (r)) := by
 unfold f96 at h
 refine fn_of_E Try.func96 rfl (Nat.le_of_ble_eq_true rfl) fun g0 hm hfr => ?_
 have qf0 : PT g0.m wI z0 pf0 := hm ▸ qf0
 have qf1 : PT g0.m wI z1 pf1 := hm ▸ qf1
 show E _ 13 none _ _ _ _ _
 refine E_seq (E_region (EL_at (.bool false) rfl rfl ?_))
 refine EL_nil (thn_n ?_)
 obtain ⟨o0, hx, h⟩ := bsome h
 refine E_join (fun e w => ∃ (g : Gh) , Fr gI wI g w ∧ e 4 = .bool (o0)) (fun Q' hQ => ?_) (fun l5 w7 hR => ?_)
 ·replace h := hx
  clear hx
  refine E_region (EL_mw (.int .i64 (x0)) rfl rfl ?_)
  refine EL_do .plain rfl (D_load (g := g0) Try.isAgg3 Try.sizeOf3 rfl qf0 fun v4 r4 => ?_)
  obtain rfl := RV_int.1 r4
  refine EL_in (.bool ((decide (x0 < z0)))) rfl rfl rfl rfl ?_
  refine EL_mw (.bool ((decide (x0 < z0)))) rfl rfl ?_
  rcases csome h with ⟨hc5, h⟩ | ⟨hc5, h⟩
  ·refine EL_s rfl rfl hc5 rfl rfl ?_
   refine EL_s rfl rfl hc5 rfl rfl ?_
   refine EL_s rfl rfl hc5 rfl rfl ?_
   refine EL_p (.bool true) (P_pick (b := (decide (x0 < z0))) rfl (pick_t hc5 rfl)) rfl ?_
   refine EL_at (.bool true) rfl rfl ?_
   refine EL_nil ?_
   obtain rfl := sinj h
   exact hQ _ _ ⟨g0, hfr, rfl⟩
  ·refine EL_y (.int .i64 (x0)) (P_move rfl) rfl rfl hc5 rfl ?_
   refine EL_do (.yes2 rfl rfl hc5) rfl (D_load (g := g0) Try.isAgg3 Try.sizeOf3 rfl qf1 fun v6 r6 => ?_)
   obtain rfl := RV_int.1 r6
   refine EL_y (.bool ((decide (x0 > z1)))) (P_int rfl rfl rfl) rfl rfl hc5 rfl ?_
   refine EL_p (.bool ((decide (x0 > z1)))) (P_pick (b := (decide (x0 < z0))) rfl (pick_f hc5 rfl)) rfl ?_
   refine EL_at (.bool ((decide (x0 > z1)))) rfl rfl ?_
   refine EL_nil ?_
   obtain rfl := sinj h
   exact hQ _ _ ⟨g0, hfr, rfl⟩
 ·clear hx
  obtain ⟨g7, hfr, u3⟩ := hR
  refine E_ret ?_
  obtain rfl := sinj h
  exact end1 rfl rfl (show _ = .bool (o0) from u3) ⟨_, hfr, rfl⟩
def f97 (x0 : List LoomOrder) (x1 : LoomOrder → Option Bool) : Option (Int) :=
 jn (σ := Unit) (fun _ =>
  some ((-1 : Int))
  ) fun k18 =>
 lp (σ := Int) (fun k19 o0 =>
  bif (decide (o0 < ((x0).length : Int))) then
   jn (σ := Unit) (fun _ =>
    k19 ((w64 (o0 + (1 : Int))))
    ) fun k28 =>
   (idx x0 o0).bind fun m8 =>
   (x1 m8).bind fun n8 =>
   bif n8 then
    some (o0)
   else
    k28 ()
  else
   k18 ()
  ) big ((0 : Int))
theorem en97 : Enters Try.prog 97 := enters_of Try.func97 (by kernel_rfl) rfl
theorem wk97 {gI : Gh} {wI : World} {x0 : List LoomOrder} {x1 : LoomOrder → Option Bool} {up0 : Value} (rp0 : RV gI.m wI x0 up0) {up1 : Value} (rp1 : FnV1 Try.prog x1 up1 gI wI) {r : Int} (h : f97 x0 x1 = some r) : Fn Try.prog 97 #[up0, up1] gI wI (fun _ _ v => v = .int .i64 (r)) := by
 unfold f97 at h
 refine fn_of_E Try.func97 rfl (Nat.le_of_ble_eq_true rfl) fun g0 hm hfr => ?_
 have rp0 : RV g0.m wI x0 up0 := hm ▸ rp0
 obtain ⟨ff1, fa1, fc1, rfl, fen1, fcl1⟩ := rp1
 show E _ 19 none _ _ _ _ _
 refine E_seq (E_region (EL_at (.int .i64 (0)) rfl rfl ?_))
 refine EL_nil (thn_n (E_joinC h (fun (s : Unit) e w => ∃ (g : Gh) , Fr gI wI g w) (fun X18 k18 r8 h => ?_) ?_))
 ·refine E_seq (E_region (EL_mw up0 rfl rfl ?_))
  refine EL_p (.int .i64 ((x0).length : Int)) (P_len Try.underlying25 rfl rp0) rfl ?_
  refine EL_mw (.int .i64 (0)) rfl rfl ?_
  refine EL_nil (thn_n (E_block ?_))
  refine E_lp h (fun (s : Int) e w => ∃ (g : Gh) , Fr gI wI g w ∧ e 0 = up0 ∧ RV g.m w (x0 : List LoomOrder) up0 ∧ e 1 = (.func (.func ff1) fa1 fc1) ∧ e 7 = .int .i64 (((x0).length : Int)) ∧ e 8 = .int .i64 (s)) ⟨g0, hfr, rfl, rp0, rfl, rfl, rfl⟩ (fun X19 k19 v8 => ?_)
  rintro o0 y9 iA ⟨y6, hfr, i6, u3, j6, x6, l5⟩ h
  refine E_seq (E_region (EL_in (.bool ((decide (o0 < ((x0).length : Int))))) l5 x6 rfl rfl ?_))
  refine EL_nil (thn_n (E_seq ?_))
  rcases csome h with ⟨t5, h⟩ | ⟨t5, h⟩
  ·refine E_ct t5 rfl ?_
   refine E_skip (thn_n (E_joinC h (fun (s : Unit) e w => ∃ (g : Gh) , Fr gI wI g w ∧ e 0 = up0 ∧ RV g.m w (x0 : List LoomOrder) up0 ∧ e 1 = (.func (.func ff1) fa1 fc1) ∧ e 7 = .int .i64 (((x0).length : Int)) ∧ e 8 = .int .i64 (o0)) (fun X28 k28 x8 h => ?_) ?_))
   ·refine E_block ?_
    refine E_seq (E_region (EL_mv l5 rfl ?_))
    refine EL_at (.int .i64 (o0)) rfl rfl ?_
    refine EL_nil (thn_n (E_seq (E_region (EL_mv j6 rfl ?_))))
    refine EL_mv i6 rfl ?_
    refine EL_mw (.int .i64 (o0)) rfl rfl ?_
    obtain ⟨m8, d7, h⟩ := bsome h
    refine EL_p (ePtr up0 o0 5) (P_indexAddr (α := LoomOrder) Try.underlying25 Try.sizeOf82 rfl u3 rfl d7) rfl ?_
    have d9 := PT_idx u3 d7
    refine EL_do .plain rfl (D_load (g := y6) Try.isAgg82 Try.sizeOf82 rfl d9 fun k9 l9 => ?_)
    obtain ⟨n8, a9, h⟩ := bsome h
    refine EL_do .plain rfl (D_callv (g := y6) (vs := [k9]) rfl fen1 (.cons rfl .nil) (fcl1 _ _ hfr.ch _ _ _  l9 a9) fun n9 rA yA hs hr => ?_)
    have hfr := hfr.ext hs
    have u3 := u3.ext hs
    obtain rfl := RV_bool.1 hr
    refine EL_nil (thn_n ?_)
    rcases csome h with ⟨x5, h⟩ | ⟨x5, h⟩
    ·refine E_ct x5 rfl ?_
     refine E_seq (E_region (EL_mw (.int .i64 (o0)) rfl rfl ?_))
     refine EL_at (.int .i64 (o0)) rfl rfl ?_
     refine EL_nil (thn_n (E_ret (blk_r ?_)))
     refine thn_r ?_
     refine thn_r ?_
     refine blk_r ?_
     refine thn_r ?_
     obtain rfl := sinj h
     exact end1 rfl rfl (show _ = .int .i64 (o0) from rfl) ⟨_, hfr, rfl⟩
    ·refine E_cf x5 rfl ?_
     exact E_skip (blk_n (thn_n (x8 () _ _ ⟨n9, hfr, i6, u3, j6, x6, l5⟩ h)))
   ·rintro _ z9 aB ⟨u9, hfr, i7, m7, g8, k8, l8⟩ h
    refine E_region (EL_in (.int .i64 ((w64 (o0 + (1 : Int))))) l8 rfl rfl rfl ?_)
    refine EL_mw (.int .i64 ((w64 (o0 + (1 : Int))))) rfl rfl ?_
    exact EL_nil (thn_n (v8 ((w64 (o0 + (1 : Int)))) _ _ ⟨u9, hfr, i7, m7, g8, k8, rfl⟩ h))
  ·refine E_cf t5 rfl ?_
   refine E_exit ?_
   refine thn_e ?_
   refine thn_e ?_
   refine blk_hit ?_
   exact thn_n (r8 () _ _ ⟨y6, hfr⟩ h)
 ·rintro _ bA dB ⟨iB, hfr⟩ h
  refine E_seq (E_region (EL_at (.int .i64 (-1)) rfl rfl ?_))
  refine EL_nil (thn_n (E_ret ?_))
  obtain rfl := sinj h
  exact end1 rfl rfl (show _ = .int .i64 (-1) from rfl) ⟨_, hfr, rfl⟩
def f99 (z0 : Int) (σ : Type) (cons : Cons σ Int) (s0 : σ) : Option σ :=
 lp (σ := σ × Int) (fun k2 (l8, o0) =>
  jn (σ := σ) (fun i6 =>
   k2 (i6, (bit64 .and (w64 (o0 - (1 : Int))) z0))
   ) fun k9 =>
  Option.bind (α := σ × Bool) (
   (cons l8 o0).bind fun (x5, d7) =>
   bif (!x5) then
    some (d7, true)
   else
    some (d7, (o0 == (0 : Int)))
   ) fun (t5, u3) =>
  bif u3 then
   some t5
  else
   k9 (t5)
  ) big (s0, z0)
theorem en99 : Enters Try.prog 99 := enters_of Try.func99 (by kernel_rfl) rfl
theorem wk99 {σ : Type} {cons : Cons σ Int} {s0 r : σ} {gI : Gh} {wI : World} {z0 : Int} {pf0 : Value} (qf0 : PT gI.m wI z0 pf0) (h : f99 z0 σ cons s0 = some r) : IterC Try.prog (RA1 (α := Int)) 99 #[] #[pf0] gI wI cons s0 r := by
 unfold f99 at h
 refine iter_of_E Try.func99 rfl (Nat.le_of_ble_eq_true rfl) fun l B J g0 hm hAb hRo hfr => ?_
 have qf0 : PT g0.m wI z0 pf0 := hm ▸ qf0
 show E _ 17 none _ _ (envAt #[.func (.yield l) #[] #[], pf0]) _ _
 refine E_seq (E_region (EL_do .plain rfl (D_load (g := g0) Try.isAgg3 Try.sizeOf3 rfl qf0 fun v1 r1 => ?_)))
 obtain rfl := RV_int.1 r1
 refine EL_at (.int .i64 (z0)) rfl rfl ?_
 refine EL_nil (thn_n (E_block ?_))
 refine E_lp h (fun (s : σ × Int) e w => ∃ (g : Gh) , FrY gI wI B J (s.1) g w ∧ e 0 = (.func (.yield l) #[] #[]) ∧ e 1 = pf0 ∧ PT g.m w (z0 : Int) pf0 ∧ e 3 = .int .i64 (s.2)) ⟨g0, hfr, rfl, rfl, qf0, rfl⟩ (fun X2 k2 hk2 => ?_)
 rintro ⟨l8, o0⟩ aB w3 ⟨g3, hfr, i7, m8, j6, x6⟩ h
 refine E_joinC h (fun (s : σ) e w => ∃ (g : Gh) , FrY gI wI B J (s) g w ∧ e 0 = (.func (.yield l) #[] #[]) ∧ e 1 = pf0 ∧ PT g.m w (z0 : Int) pf0 ∧ e 3 = .int .i64 (o0)) (fun X12 k9 u9 h => ?_) ?_
 ·refine E_block ?_
  obtain ⟨⟨t5, u3⟩, hx, h⟩ := bsome h
  refine E_join (fun e w => ∃ (g : Gh) , FrY gI wI B J (t5) g w ∧ e 0 = (.func (.yield l) #[] #[]) ∧ e 1 = pf0 ∧ PT g.m w (z0 : Int) pf0 ∧ e 3 = .int .i64 (o0) ∧ e 16 = .bool (u3)) (fun Q' hQ => ?_) (fun rA dB hR => ?_)
  ·replace h := hx
   clear hx
   refine E_region (EL_mv i7 rfl ?_)
   refine EL_mv x6 rfl ?_
   obtain ⟨z9, y9, h⟩ := bsome h
   obtain ⟨x5, d7⟩ := z9
   refine EL_do .plain rfl (D_yield (g := g3) (x := o0) rfl (.cons rfl .nil) hRo hfr y9 ⟨_, rfl, (RV_int.2 rfl)⟩ fun l9 iB hs hfrY => ?_)
   have j6 := j6.stp hs
   have hfr := hfrY
   clear hfrY
   refine EL_p (.bool (!x5)) (P_not rfl) rfl ?_
   refine EL_mw (.bool (!x5)) rfl rfl ?_
   rcases csome h with ⟨l5, h⟩ | ⟨l5, h⟩
   ·refine EL_s rfl rfl l5 rfl rfl ?_
    refine EL_s rfl rfl l5 rfl rfl ?_
    refine EL_p (.bool true) (P_pick (b := (!x5)) rfl (pick_t l5 rfl)) rfl ?_
    refine EL_nil ?_
    obtain ⟨rfl, rfl⟩ := pairs2 h
    exact hQ _ _ ⟨l9, hfr, i7, m8, j6, x6, rfl⟩
   ·refine EL_y (.int .i64 (o0)) (P_move x6) rfl rfl l5 rfl ?_
    refine EL_y (.bool ((o0 == (0 : Int)))) (P_int rfl rfl rfl) rfl rfl l5 rfl ?_
    refine EL_p (.bool ((o0 == (0 : Int)))) (P_pick (b := (!x5)) rfl (pick_f l5 rfl)) rfl ?_
    refine EL_nil ?_
    obtain ⟨rfl, rfl⟩ := pairs2 h
    exact hQ _ _ ⟨l9, hfr, i7, m8, j6, x6, rfl⟩
  ·clear hx
   obtain ⟨bA, hfr, n8, r8, v8, x8, y6⟩ := hR
   rcases csome h with ⟨m7, h⟩ | ⟨m7, h⟩
   ·refine E_cond_true (Eq.trans (show ev _ _ = .bool (u3) from y6) (congrArg Value.bool m7)) ?_
    refine E_ret (blk_r ?_)
    refine thn_r ?_
    refine thn_r ?_
    refine blk_r ?_
    obtain rfl := sinj h
    exact end0 rfl rfl (FrY.done hfr)
   ·refine E_cond_false (Eq.trans (show ev _ _ = .bool (u3) from y6) (congrArg Value.bool m7)) ?_
    exact E_skip (blk_n (thn_n (u9 (t5) _ _ ⟨bA, hfr, n8, r8, v8, x8⟩ h)))
 ·rintro i6 yA jB ⟨n9, hfr, a9, g8, k8, d9⟩ h
  refine E_region (EL_mv d9 rfl ?_)
  refine EL_in (.int .i64 ((w64 (o0 - (1 : Int))))) rfl rfl rfl rfl ?_
  refine EL_do .plain rfl (D_load (g := n9) Try.isAgg3 Try.sizeOf3 g8 k8 fun lB iA => ?_)
  obtain rfl := RV_int.1 iA
  refine EL_in (.int .i64 ((bit64 .and (w64 (o0 - (1 : Int))) z0))) rfl rfl rfl rfl ?_
  refine EL_at (.int .i64 ((bit64 .and (w64 (o0 - (1 : Int))) z0))) rfl rfl ?_
  exact EL_nil (thn_n (hk2 (i6, (bit64 .and (w64 (o0 - (1 : Int))) z0)) _ _ ⟨n9, hfr, a9, g8, k8, rfl⟩ h))
def f102 (x0 : Int) : Option (Bool) :=
 some ((x0 != x0))
theorem en102 : Enters Try.prog 102 := enters_of Try.func102 (by kernel_rfl) rfl
theorem wk102 {gI : Gh} {wI : World} {x0 : Int}  {r : Bool} (h : f102 x0 = some r) : Fn Try.prog 102 #[.int .i64 (x0)] gI wI (fun _ _ v => v = .bool (r)) := by
 unfold f102 at h
 refine fn_of_E Try.func102 rfl (Nat.le_of_ble_eq_true rfl) fun g0 hm hfr => ?_
 show E _ 6 none _ _ _ _ _
 refine E_seq (E_region (EL_at (.bool false) rfl rfl ?_))
 refine EL_nil (thn_n (E_seq (E_region (EL_mw (.int .i64 (x0)) rfl rfl ?_))))
 refine EL_mw (.int .i64 (x0)) rfl rfl ?_
 refine EL_in (.bool ((x0 != x0))) rfl rfl rfl rfl ?_
 refine EL_at (.bool ((x0 != x0))) rfl rfl ?_
 refine EL_nil (thn_n (E_ret ?_))
 obtain rfl := sinj h
 exact end1 rfl rfl (show _ = .bool ((x0 != x0)) from rfl) ⟨_, hfr, rfl⟩
def f103 (x0 : List Bool) (x1 : Bool) : Option (Int) :=
 jn (σ := Unit) (fun _ =>
  some ((-1 : Int))
  ) fun m8 =>
 lp (σ := Int) (fun n8 o0 =>
  bif (decide (o0 < ((x0).length : Int))) then
   jn (σ := Unit) (fun _ =>
    n8 ((w64 (o0 + (1 : Int))))
    ) fun r8 =>
   (idx x0 o0).bind fun y23 =>
   bif (x1 == y23) then
    some (o0)
   else
    r8 ()
  else
   m8 ()
  ) big ((0 : Int))
theorem en103 : Enters Try.prog 103 := enters_of Try.func103 (by kernel_rfl) rfl
theorem wk103 {gI : Gh} {wI : World} {x0 : List Bool} {x1 : Bool} {up0 : Value} (rp0 : RV gI.m wI x0 up0) {r : Int} (h : f103 x0 x1 = some r) : Fn Try.prog 103 #[up0, .bool (x1)] gI wI (fun _ _ v => v = .int .i64 (r)) := by
 unfold f103 at h
 refine fn_of_E Try.func103 rfl (Nat.le_of_ble_eq_true rfl) fun g0 hm hfr => ?_
 have rp0 : RV g0.m wI x0 up0 := hm ▸ rp0
 show E _ 19 none _ _ _ _ _
 refine E_seq (E_region (EL_at (.int .i64 (0)) rfl rfl ?_))
 refine EL_nil (thn_n (E_joinC h (fun (s : Unit) e w => ∃ (g : Gh) , Fr gI wI g w) (fun X14 m8 v8 h => ?_) ?_))
 ·refine E_seq (E_region (EL_mw up0 rfl rfl ?_))
  refine EL_p (.int .i64 ((x0).length : Int)) (P_len Try.underlying101 rfl rp0) rfl ?_
  refine EL_mw (.int .i64 (0)) rfl rfl ?_
  refine EL_nil (thn_n (E_block ?_))
  refine E_lp h (fun (s : Int) e w => ∃ (g : Gh) , Fr gI wI g w ∧ e 0 = up0 ∧ RV g.m w (x0 : List Bool) up0 ∧ e 1 = .bool (x1) ∧ e 7 = .int .i64 (((x0).length : Int)) ∧ e 8 = .int .i64 (s)) ⟨g0, hfr, rfl, rp0, rfl, rfl, rfl⟩ (fun X15 n8 x8 => ?_)
  rintro o0 n9 z9 ⟨y6, hfr, i6, u3, j6, x6, l5⟩ h
  refine E_seq (E_region (EL_in (.bool ((decide (o0 < ((x0).length : Int))))) l5 x6 rfl rfl ?_))
  refine EL_nil (thn_n (E_seq ?_))
  rcases csome h with ⟨t5, h⟩ | ⟨t5, h⟩
  ·refine E_ct t5 rfl ?_
   refine E_skip (thn_n (E_joinC h (fun (s : Unit) e w => ∃ (g : Gh) , Fr gI wI g w ∧ e 0 = up0 ∧ RV g.m w (x0 : List Bool) up0 ∧ e 1 = .bool (x1) ∧ e 7 = .int .i64 (((x0).length : Int)) ∧ e 8 = .int .i64 (o0)) (fun X22 r8 a9 h => ?_) ?_))
   ·refine E_block ?_
    refine E_seq (E_region (EL_mv l5 rfl ?_))
    refine EL_at (.int .i64 (o0)) rfl rfl ?_
    refine EL_nil (thn_n (E_seq (E_region (EL_mv j6 rfl ?_))))
    refine EL_mv i6 rfl ?_
    refine EL_mw (.int .i64 (o0)) rfl rfl ?_
    obtain ⟨y23, d7, h⟩ := bsome h
    refine EL_p (ePtr up0 o0 1) (P_indexAddr (α := Bool) Try.underlying101 Try.sizeOf4 rfl u3 rfl d7) rfl ?_
    have d9 := PT_idx u3 d7
    refine EL_do .plain rfl (D_load (g := y6) Try.isAgg4 Try.sizeOf4 rfl d9 fun bA k9 => ?_)
    obtain rfl := RV_bool.1 k9
    refine EL_p (.bool ((x1 == y23))) (P_bool Try.underlying4 rfl rfl rfl) rfl ?_
    refine EL_nil (thn_n ?_)
    rcases csome h with ⟨x5, h⟩ | ⟨x5, h⟩
    ·refine E_ct x5 rfl ?_
     refine E_seq (E_region (EL_mw (.int .i64 (o0)) rfl rfl ?_))
     refine EL_at (.int .i64 (o0)) rfl rfl ?_
     refine EL_nil (thn_n (E_ret (blk_r ?_)))
     refine thn_r ?_
     refine thn_r ?_
     refine blk_r ?_
     refine thn_r ?_
     obtain rfl := sinj h
     exact end1 rfl rfl (show _ = .int .i64 (o0) from rfl) ⟨_, hfr, rfl⟩
    ·refine E_cf x5 rfl ?_
     exact E_skip (blk_n (thn_n (a9 () _ _ ⟨y6, hfr, i6, u3, j6, x6, l5⟩ h)))
   ·rintro _ u9 iA ⟨l9, hfr, i7, m7, g8, k8, l8⟩ h
    refine E_region (EL_in (.int .i64 ((w64 (o0 + (1 : Int))))) l8 rfl rfl rfl ?_)
    refine EL_mw (.int .i64 ((w64 (o0 + (1 : Int))))) rfl rfl ?_
    exact EL_nil (thn_n (x8 ((w64 (o0 + (1 : Int)))) _ _ ⟨l9, hfr, i7, m7, g8, k8, rfl⟩ h))
  ·refine E_cf t5 rfl ?_
   refine E_exit ?_
   refine thn_e ?_
   refine thn_e ?_
   refine blk_hit ?_
   exact thn_n (v8 () _ _ ⟨y6, hfr⟩ h)
 ·rintro _ y9 rA ⟨yA, hfr⟩ h
  refine E_seq (E_region (EL_at (.int .i64 (-1)) rfl rfl ?_))
  refine EL_nil (thn_n (E_ret ?_))
  obtain rfl := sinj h
  exact end1 rfl rfl (show _ = .int .i64 (-1) from rfl) ⟨_, hfr, rfl⟩
def f104 (x0 : List Int) (x1 : Int → Option Bool) : Option (Int) :=
 jn (σ := Unit) (fun _ =>
  some ((-1 : Int))
  ) fun k18 =>
 lp (σ := Int) (fun k19 o0 =>
  bif (decide (o0 < ((x0).length : Int))) then
   jn (σ := Unit) (fun _ =>
    k19 ((w64 (o0 + (1 : Int))))
    ) fun k28 =>
   (idx x0 o0).bind fun y6 =>
   (x1 y6).bind fun n8 =>
   bif n8 then
    some (o0)
   else
    k28 ()
  else
   k18 ()
  ) big ((0 : Int))
theorem en104 : Enters Try.prog 104 := enters_of Try.func104 (by kernel_rfl) rfl
theorem wk104 {gI : Gh} {wI : World} {x0 : List Int} {x1 : Int → Option Bool} {up0 : Value} (rp0 : RV gI.m wI x0 up0) {up1 : Value} (rp1 : FnV1 Try.prog x1 up1 gI wI) {r : Int} (h : f104 x0 x1 = some r) : Fn Try.prog 104 #[up0, up1] gI wI (fun _ _ v => v = .int .i64 (r)) := by
 unfold f104 at h
 refine fn_of_E Try.func104 rfl (Nat.le_of_ble_eq_true rfl) fun g0 hm hfr => ?_
 have rp0 : RV g0.m wI x0 up0 := hm ▸ rp0
 obtain ⟨ff1, fa1, fc1, rfl, fen1, fcl1⟩ := rp1
 show E _ 19 none _ _ _ _ _
 refine E_seq (E_region (EL_at (.int .i64 (0)) rfl rfl ?_))
 refine EL_nil (thn_n (E_joinC h (fun (s : Unit) e w => ∃ (g : Gh) , Fr gI wI g w) (fun X18 k18 r8 h => ?_) ?_))
 ·refine E_seq (E_region (EL_mw up0 rfl rfl ?_))
  refine EL_p (.int .i64 ((x0).length : Int)) (P_len Try.underlying22 rfl rp0) rfl ?_
  refine EL_mw (.int .i64 (0)) rfl rfl ?_
  refine EL_nil (thn_n (E_block ?_))
  refine E_lp h (fun (s : Int) e w => ∃ (g : Gh) , Fr gI wI g w ∧ e 0 = up0 ∧ RV g.m w (x0 : List Int) up0 ∧ e 1 = (.func (.func ff1) fa1 fc1) ∧ e 7 = .int .i64 (((x0).length : Int)) ∧ e 8 = .int .i64 (s)) ⟨g0, hfr, rfl, rp0, rfl, rfl, rfl⟩ (fun X19 k19 v8 => ?_)
  rintro o0 u9 bA ⟨d7, hfr, i6, u3, j6, x6, l5⟩ h
  refine E_seq (E_region (EL_in (.bool ((decide (o0 < ((x0).length : Int))))) l5 x6 rfl rfl ?_))
  refine EL_nil (thn_n (E_seq ?_))
  rcases csome h with ⟨t5, h⟩ | ⟨t5, h⟩
  ·refine E_ct t5 rfl ?_
   refine E_skip (thn_n (E_joinC h (fun (s : Unit) e w => ∃ (g : Gh) , Fr gI wI g w ∧ e 0 = up0 ∧ RV g.m w (x0 : List Int) up0 ∧ e 1 = (.func (.func ff1) fa1 fc1) ∧ e 7 = .int .i64 (((x0).length : Int)) ∧ e 8 = .int .i64 (o0)) (fun X28 k28 x8 h => ?_) ?_))
   ·refine E_block ?_
    refine E_seq (E_region (EL_mv l5 rfl ?_))
    refine EL_at (.int .i64 (o0)) rfl rfl ?_
    refine EL_nil (thn_n (E_seq (E_region (EL_mv j6 rfl ?_))))
    refine EL_mv i6 rfl ?_
    refine EL_mw (.int .i64 (o0)) rfl rfl ?_
    obtain ⟨y6, i7, h⟩ := bsome h
    refine EL_p (ePtr up0 o0 1) (P_indexAddr (α := Int) Try.underlying22 Try.sizeOf3 rfl u3 rfl i7) rfl ?_
    have d9 := PT_idx u3 i7
    refine EL_do .plain rfl (D_load (g := d7) Try.isAgg3 Try.sizeOf3 rfl d9 fun iA k9 => ?_)
    obtain rfl := RV_int.1 k9
    obtain ⟨n8, a9, h⟩ := bsome h
    refine EL_do .plain rfl (D_callv (g := d7) (vs := [.int .i64 (y6)]) rfl fen1 (.cons rfl .nil) (fcl1 _ _ hfr.ch _ _ _  (RV_int.2 rfl) a9) fun l9 rA yA hs hr => ?_)
    have hfr := hfr.ext hs
    have u3 := u3.ext hs
    obtain rfl := RV_bool.1 hr
    refine EL_nil (thn_n ?_)
    rcases csome h with ⟨x5, h⟩ | ⟨x5, h⟩
    ·refine E_ct x5 rfl ?_
     refine E_seq (E_region (EL_mw (.int .i64 (o0)) rfl rfl ?_))
     refine EL_at (.int .i64 (o0)) rfl rfl ?_
     refine EL_nil (thn_n (E_ret (blk_r ?_)))
     refine thn_r ?_
     refine thn_r ?_
     refine blk_r ?_
     refine thn_r ?_
     obtain rfl := sinj h
     exact end1 rfl rfl (show _ = .int .i64 (o0) from rfl) ⟨_, hfr, rfl⟩
    ·refine E_cf x5 rfl ?_
     exact E_skip (blk_n (thn_n (x8 () _ _ ⟨l9, hfr, i6, u3, j6, x6, l5⟩ h)))
   ·rintro _ y9 aB ⟨n9, hfr, m7, g8, k8, l8, m8⟩ h
    refine E_region (EL_in (.int .i64 ((w64 (o0 + (1 : Int))))) m8 rfl rfl rfl ?_)
    refine EL_mw (.int .i64 ((w64 (o0 + (1 : Int))))) rfl rfl ?_
    exact EL_nil (thn_n (v8 ((w64 (o0 + (1 : Int)))) _ _ ⟨n9, hfr, m7, g8, k8, l8, rfl⟩ h))
  ·refine E_cf t5 rfl ?_
   refine E_exit ?_
   refine thn_e ?_
   refine thn_e ?_
   refine blk_hit ?_
   exact thn_n (r8 () _ _ ⟨d7, hfr⟩ h)
 ·rintro _ z9 dB ⟨iB, hfr⟩ h
  refine E_seq (E_region (EL_at (.int .i64 (-1)) rfl rfl ?_))
  refine EL_nil (thn_n (E_ret ?_))
  obtain rfl := sinj h
  exact end1 rfl rfl (show _ = .int .i64 (-1) from rfl) ⟨_, hfr, rfl⟩
def f105 (x0 : LoomLoomMill) (x1 : Int) (x2 : Int) (x3 : Int) (x4 : List (Int × LoomRun)) : Option (Int) :=
 (idx ((x0).orders) x1).bind fun y4 =>
 jn (σ := Int) (fun o0 =>
  jn (σ := Unit) (fun _ =>
   some (o0)
   ) fun rA =>
  Option.bind (α := Bool) (
   (idx (((x0).LoomMill).Widths) x2).bind fun t5 =>
   bif (decide ((y4).Width > t5)) then
    some (true)
   else
    some ((decide ((w64 (o0 + (y4).Woven)) > (y4).Late)))
   ) fun x5 =>
  bif x5 then
   some ((1048576 : Int))
  else
   rA ()
  ) fun yA =>
 bif ((mget x4 x1).isSome) then
  jn (σ := Unit) (fun _ =>
   yA ((((mget x4 x1).getD (⟨0, 0, 0⟩ : LoomRun))).From)
   ) fun k60 =>
  Option.bind (α := Bool) (
   bif ((((mget x4 x1).getD (⟨0, 0, 0⟩ : LoomRun))).Loom != x2) then
    some (true)
   else
    some ((decide ((((mget x4 x1).getD (⟨0, 0, 0⟩ : LoomRun))).From < (max64 (y4).Early x3))))
   ) fun j6 =>
  bif j6 then
   some ((1048576 : Int))
  else
   k60 ()
 else
  yA ((max64 (y4).Early x3))
theorem en105 : Enters Try.prog 105 := enters_of Try.func105 (by kernel_rfl) rfl
theorem wk105 {gI : Gh} {wI : World} {x0 : LoomLoomMill} {x1 : Int} {x2 : Int} {x3 : Int} {x4 : List (Int × LoomRun)} {up0 : Value} (rp0 : RV gI.m wI x0 up0) {up4 : Value} (mq4 : MR (Value.int .i64) gI wI x4 up4) {r : Int} (h : f105 x0 x1 x2 x3 x4 = some r) : Fn Try.prog 105 #[up0, .int .i64 (x1), .int .i64 (x2), .int .i64 (x3), up4] gI wI (fun _ _ v => v = .int .i64 (r)) := by
 unfold f105 at h
 refine fn_of_E Try.func105 rfl (Nat.le_of_ble_eq_true rfl) fun g0 hm hfr => ?_
 have rp0 : RV g0.m wI x0 up0 := hm ▸ rp0
 have mq4 := MQ.enter mq4 hm hfr
 show E _ 62 none _ _ _ _ _
 refine E_seq (E_region (EL_do .plain rfl (D_box (g := g0) rfl rp0 fun g1 w1 p1 hs q1 => ?_)))
 have hfr := hfr.ext hs
 have mq4 := mq4.ext hs
 refine EL_at (.int .i64 (0)) rfl rfl ?_
 refine EL_nil (thn_n (E_seq (E_region (EL_p (fPtr p1 2) (P_fieldAddr at_96_1 rfl (PT.ptr q1)) rfl ?_))))
 have q2 := PT_field (part_LoomLoomMill_1).1 q1
 refine EL_do .plain rfl (D_load (g := g1) Try.isAgg25 Try.sizeOf25 rfl q2 fun v3 r3 => ?_)
 refine EL_mw (.int .i64 (x1)) rfl rfl ?_
 obtain ⟨y4, aD, h⟩ := bsome h
 refine EL_p (ePtr v3 x1 5) (P_indexAddr (α := LoomOrder) Try.underlying25 Try.sizeOf82 rfl r3 rfl aD) rfl ?_
 have q5 := PT_idx r3 aD
 refine EL_do .plain rfl (D_load (g := g1) Try.isAgg82 Try.sizeOf82 rfl q5 fun v6 r6 => ?_)
 refine EL_do .plain rfl (D_allocOc (g := g1) 2011 (⟨0, 0, 0, 0, 0⟩ : LoomOrder) Try.zeroValue82 (fun m w => ⟨_, (rep_two rep_int (rep_two rep_int (rep_two rep_int (rep_two rep_int rep_int)))), rfl⟩) fun g7 w7 p7 hs b7 cb => ?_)
 have hfr := hfr.stp hs
 have mq4 := mq4.stp hs
 have q1 := q1.stp hs
 have r6 := r6.stp hs
 clear cb
 refine EL_do .plain rfl (D_storeOc (g := g7) (v := v6) Try.sizeOf82 rfl b7 rfl r6 fun g8 w8 hs b8 cb => ?_)
 clear cb
 have hfr := hfr.stp hs
 have mq4 := mq4.stp hs
 have q1 := q1.stp hs
 refine EL_nil (thn_n (E_seq (E_region (EL_p (fPtr p7 3) (P_fieldAddr at_82_3 rfl (OB.ptr b8)) rfl ?_))))
 refine EL_do .plain rfl (D_loadF (g := g8) part_LoomOrder_3.1 Try.isAgg3 Try.sizeOf3 rfl b8 fun uE uD => ?_)
 obtain rfl := RV_int.1 uD
 refine EL_mw (.int .i64 (x3)) rfl rfl ?_
 refine EL_p (.int .i64 (max64 (y4).Early x3)) (P_max rfl rfl) rfl ?_
 refine EL_at (.int .i64 (max64 (y4).Early x3)) rfl rfl ?_
 refine EL_nil (thn_n (E_joinC h (fun (s : Int) e w => ∃ (g : Gh) , Fr gI wI g w ∧ e 2 = .int .i64 (x2) ∧ e 5 = p1 ∧ PT g.m w (x0 : LoomLoomMill) p1 ∧ e 11 = p7 ∧ OB 2011 g w 82 (y4 : LoomOrder) p7 ∧ e 12 = .int .i64 (s)) (fun X43 yA aB h => ?_) ?_))
 ·refine E_seq (E_region (EL_mw up4 rfl rfl ?_))
  refine EL_mw (.int .i64 (x1)) rfl rfl ?_
  refine EL_do .plain rfl (D_lookupOkR (g := g8) (z0 := (⟨0, 0, 0⟩ : LoomRun)) Try.underlying100 key_3 Try.zeroValue76 (fun m w => ⟨_, (rep_two rep_int (rep_two rep_int rep_int)), rfl⟩) rfl mq4.r rfl fun dB iB => ?_)
  refine EL_mw (.tuple #[dB, .bool ((mget x4 x1).isSome)]) rfl rfl ?_
  refine EL_p dB (P_extract rfl rfl) rfl ?_
  refine EL_p (.bool ((mget x4 x1).isSome)) (P_extract rfl rfl) rfl ?_
  refine EL_do .plain rfl (D_allocOc (g := g8) 2013 (⟨0, 0, 0⟩ : LoomRun) Try.zeroValue76 (fun m w => ⟨_, (rep_two rep_int (rep_two rep_int rep_int)), rfl⟩) fun vD vE y6 hs b45 cb => ?_)
  have hfr := hfr.stp hs
  have q1 := q1.stp hs
  have b8 := b8.stp hs rfl
  have iB := iB.stp hs
  clear cb
  refine EL_do .plain rfl (D_storeOc (g := vD) (v := dB) Try.sizeOf76 rfl b45 rfl iB fun n8 xE hs b46 cb => ?_)
  clear cb
  have hfr := hfr.stp hs
  have q1 := q1.stp hs
  have b8 := b8.stp hs rfl
  refine EL_at (.bool ((mget x4 x1).isSome)) rfl rfl ?_
  refine EL_nil (thn_n (E_seq (E_region (EL_mw (.bool ((mget x4 x1).isSome)) rfl rfl ?_))))
  refine EL_nil (thn_n ?_)
  rcases csome h with ⟨x8, h⟩ | ⟨x8, h⟩
  ·refine E_ct x8 rfl ?_
   refine E_joinC h (fun (s : Unit) e w => ∃ (g : Gh) , Fr gI wI g w ∧ e 2 = .int .i64 (x2) ∧ e 5 = p1 ∧ PT g.m w (x0 : LoomLoomMill) p1 ∧ e 11 = p7 ∧ OB 2011 g w 82 (y4 : LoomOrder) p7 ∧ e 13 = y6 ∧ OB 2013 g w 76 (((mget x4 x1).getD (⟨0, 0, 0⟩ : LoomRun)) : LoomRun) y6) (fun X60 k60 eD h => ?_) ?_
   ·obtain ⟨j6, hx, h⟩ := bsome h
    refine E_join (fun e w => ∃ (g : Gh) , Fr gI wI g w ∧ e 2 = .int .i64 (x2) ∧ e 5 = p1 ∧ PT g.m w (x0 : LoomLoomMill) p1 ∧ e 11 = p7 ∧ OB 2011 g w 82 (y4 : LoomOrder) p7 ∧ e 13 = y6 ∧ OB 2013 g w 76 (((mget x4 x1).getD (⟨0, 0, 0⟩ : LoomRun)) : LoomRun) y6 ∧ e 40 = .bool (j6)) (fun Q' hQ => ?_) (fun dE yE hR => ?_)
    ·replace h := hx
     clear hx
     refine E_region (EL_p (fPtr y6 1) (P_fieldAddr at_76_1 rfl (OB.ptr b46)) rfl ?_)
     refine EL_do .plain rfl (D_loadF (g := n8) part_LoomRun_1.1 Try.isAgg3 Try.sizeOf3 rfl b46 fun zE xD => ?_)
     obtain rfl := RV_int.1 xD
     refine EL_mw (.int .i64 (x2)) rfl rfl ?_
     refine EL_in (.bool (((((mget x4 x1).getD (⟨0, 0, 0⟩ : LoomRun))).Loom != x2))) rfl rfl rfl rfl ?_
     refine EL_mw (.bool (((((mget x4 x1).getD (⟨0, 0, 0⟩ : LoomRun))).Loom != x2))) rfl rfl ?_
     rcases csome h with ⟨i6, h⟩ | ⟨i6, h⟩
     ·refine EL_s rfl rfl i6 rfl rfl ?_
      iterate 3 refine EL_s rfl rfl i6 rfl rfl ?_
      refine EL_p (.bool true) (P_pick (b := ((((mget x4 x1).getD (⟨0, 0, 0⟩ : LoomRun))).Loom != x2)) rfl (pick_t i6 rfl)) rfl ?_
      refine EL_nil ?_
      obtain rfl := sinj h
      exact hQ _ _ ⟨n8, hfr, rfl, rfl, q1, rfl, b8, rfl, b46, rfl⟩
     ·refine EL_y (fPtr y6 2) (P_fieldAddr at_76_2 rfl (OB.ptr b46)) rfl rfl i6 rfl ?_
      refine EL_do (.yes2 rfl rfl i6) rfl (D_loadF (g := n8) part_LoomRun_2.1 Try.isAgg3 Try.sizeOf3 rfl b46 fun cF yD => ?_)
      obtain rfl := RV_int.1 yD
      refine EL_y (.int .i64 (max64 (y4).Early x3)) (P_move rfl) rfl rfl i6 rfl ?_
      refine EL_y (.bool ((decide ((((mget x4 x1).getD (⟨0, 0, 0⟩ : LoomRun))).From < (max64 (y4).Early x3))))) (P_int rfl rfl rfl) rfl rfl i6 rfl ?_
      refine EL_p (.bool ((decide ((((mget x4 x1).getD (⟨0, 0, 0⟩ : LoomRun))).From < (max64 (y4).Early x3))))) (P_pick (b := ((((mget x4 x1).getD (⟨0, 0, 0⟩ : LoomRun))).Loom != x2)) rfl (pick_f i6 rfl)) rfl ?_
      refine EL_nil ?_
      obtain rfl := sinj h
      exact hQ _ _ ⟨n8, hfr, rfl, rfl, q1, rfl, b8, rfl, b46, rfl⟩
    ·clear hx
     obtain ⟨zD, hfr, yB, zB, cC, jB, lB, mB, nB, r8⟩ := hR
     rcases csome h with ⟨a9, h⟩ | ⟨a9, h⟩
     ·refine E_cond_true (Eq.trans (show ev _ _ = .bool (j6) from r8) (congrArg Value.bool a9)) ?_
      refine E_seq (E_region (EL_at (.int .i64 (1048576)) rfl rfl ?_))
      refine EL_nil (thn_n (E_ret (thn_r ?_)))
      refine thn_r ?_
      obtain rfl := sinj h
      exact end1 rfl rfl (show _ = .int .i64 (1048576) from rfl) ⟨_, hfr, rfl⟩
     ·refine E_cond_false (Eq.trans (show ev _ _ = .bool (j6) from r8) (congrArg Value.bool a9)) ?_
      exact E_skip (thn_n (eD () _ _ ⟨zD, hfr, yB, zB, cC, jB, lB, mB, nB⟩ h))
   ·rintro _ eE dF ⟨bD, hfr, eC, mC, qC, oB, tB, vB, v8⟩ h
    refine E_region (EL_p (fPtr y6 2) (P_fieldAddr at_76_2 vB (OB.ptr v8)) rfl ?_)
    refine EL_do .plain rfl (D_loadF (g := bD) part_LoomRun_2.1 Try.isAgg3 Try.sizeOf3 rfl v8 fun eF aE => ?_)
    obtain rfl := RV_int.1 aE
    refine EL_at (.int .i64 ((((mget x4 x1).getD (⟨0, 0, 0⟩ : LoomRun))).From)) rfl rfl ?_
    exact EL_nil (thn_n (aB ((((mget x4 x1).getD (⟨0, 0, 0⟩ : LoomRun))).From) _ _ ⟨bD, hfr, eC, mC, qC, oB, tB, rfl⟩ h))
  ·refine E_cf x8 rfl ?_
   exact E_skip (thn_n (aB ((max64 (y4).Early x3)) _ _ ⟨n8, hfr, rfl, rfl, q1, rfl, b8, rfl⟩ h))
 ·rintro o0 iE iF ⟨cD, hfr, l9, n9, m7, x6, l5, d7⟩ h
  refine E_joinC h (fun (s : Unit) e w => ∃ (g : Gh) , Fr gI wI g w ∧ e 12 = .int .i64 (o0)) (fun X198 rA rC h => ?_) ?_
  ·obtain ⟨x5, hx, h⟩ := bsome h
   refine E_join (fun e w => ∃ (g : Gh) , Fr gI wI g w ∧ e 12 = .int .i64 (o0) ∧ e 60 = .bool (x5)) (fun Q' hQ => ?_) (fun bE jE hR => ?_)
   ·replace h := hx
    clear hx
    refine L_loadO (x := .tmp 43) part_LoomOrder_0.1 Try.isAgg3 Try.sizeOf3 l5 fun kE gD u9 => ?_
    obtain rfl := RV_int.1 gD
    have d9 := PT_field (part_LoomLoomMill_0).1 m7
    have iD := PT_field (part_LoomMill_0).1 d9
    refine L_load (x := .tmp 46) Try.isAgg22 Try.sizeOf22 iD fun k8 k9 y9 => ?_
    obtain ⟨t5, l8, h⟩ := bsome h
    have jD := PT_idx k9 l8
    refine L_load (x := .tmp 49) Try.isAgg3 Try.sizeOf3 jD fun lE lD z9 => ?_
    obtain rfl := RV_int.1 lD
    rcases csome h with ⟨u3, h⟩ | ⟨u3, h⟩
    ·refine E_drawL (g := cD) (n := 18) [] [0, 1, 2, 3, 4, 5, 6, 7, 8, 9, 10, 11, 12, 13, 14, 15, 16, 17] rfl mixed (by kernel_rfl) trivial ?_
     refine L_p (fPtr p7 0) rfl rfl (P_fieldAddr at_82_0 x6 (OB.ptr l5)) ?_
     refine L_ld (c := .int .i64 ((y4).Width)) rfl rfl .plain (fun _ _ h => ⟨h.ch, fun b hb _ => h.below.block b hb⟩) u9 rfl ?_
     refine L_p (fPtr p1 0) rfl rfl (P_fieldAddr at_96_0 n9 (PT.ptr m7)) ?_
     refine L_p (fPtr (fPtr p1 0) 0) rfl rfl (P_fieldAddr at_24_0 rfl (PT.ptr d9)) ?_
     refine L_ld (c := k8) rfl rfl .plain (fun _ _ h => h.ch) y9 rfl ?_
     refine L_p (.int .i64 (x2)) rfl rfl (P_move l9) ?_
     refine L_p (ePtr k8 x2 1) rfl rfl (P_indexAddr (α := Int) Try.underlying22 Try.sizeOf3 rfl k9 rfl l8) ?_
     refine L_ld (c := .int .i64 (t5)) rfl rfl .plain (fun _ _ h => h.ch) z9 rfl ?_
     refine L_p (.bool ((decide ((y4).Width > t5)))) rfl rfl (P_int rfl rfl rfl) ?_
     refine L_p (.bool ((decide ((y4).Width > t5)))) rfl rfl (P_move rfl) ?_
     iterate 7 refine L_s rfl rfl rfl u3 rfl ?_
     refine L_p (.bool true) rfl rfl (P_pick (b := (decide ((y4).Width > t5))) rfl (pick_t u3 rfl)) ?_
     refine L_nl fun mD mE hs => ?_
     have hfr := hfr.ext hs
     clear hs
     refine EL_nil ?_
     obtain rfl := sinj h
     exact hQ _ _ ⟨mD, hfr, d7, rfl⟩
    ·refine L_loadO (x := .tmp 54) part_LoomOrder_2.1 Try.isAgg3 Try.sizeOf3 l5 fun nE nD uC => ?_
     obtain rfl := RV_int.1 nD
     refine L_loadO (x := .tmp 57) part_LoomOrder_4.1 Try.isAgg3 Try.sizeOf3 l5 fun oE oD vC => ?_
     obtain rfl := RV_int.1 oD
     refine E_drawL (g := cD) (n := 18) [] [0, 1, 2, 3, 4, 5, 6, 7, 8, 9, 10, 11, 12, 13, 14, 15, 16, 17] rfl mixed (by kernel_rfl) trivial ?_
     refine L_p (fPtr p7 0) rfl rfl (P_fieldAddr at_82_0 x6 (OB.ptr l5)) ?_
     refine L_ld (c := .int .i64 ((y4).Width)) rfl rfl .plain (fun _ _ h => ⟨h.ch, fun b hb _ => h.below.block b hb⟩) u9 rfl ?_
     refine L_p (fPtr p1 0) rfl rfl (P_fieldAddr at_96_0 n9 (PT.ptr m7)) ?_
     refine L_p (fPtr (fPtr p1 0) 0) rfl rfl (P_fieldAddr at_24_0 rfl (PT.ptr d9)) ?_
     refine L_ld (c := k8) rfl rfl .plain (fun _ _ h => h.ch) y9 rfl ?_
     refine L_p (.int .i64 (x2)) rfl rfl (P_move l9) ?_
     refine L_p (ePtr k8 x2 1) rfl rfl (P_indexAddr (α := Int) Try.underlying22 Try.sizeOf3 rfl k9 rfl l8) ?_
     refine L_ld (c := .int .i64 (t5)) rfl rfl .plain (fun _ _ h => h.ch) z9 rfl ?_
     refine L_p (.bool ((decide ((y4).Width > t5)))) rfl rfl (P_int rfl rfl rfl) ?_
     refine L_p (.bool ((decide ((y4).Width > t5)))) rfl rfl (P_move rfl) ?_
     refine L_y (.int .i64 (o0)) rfl rfl rfl rfl u3 (P_move d7) ?_
     refine L_y (fPtr p7 2) rfl rfl rfl rfl u3 (P_fieldAddr at_82_2 x6 (OB.ptr l5)) ?_
     refine L_ld (c := .int .i64 ((y4).Woven)) rfl rfl (.yes2 rfl rfl u3) (fun _ _ h => ⟨h.ch, fun b hb _ => h.below.block b hb⟩) uC rfl ?_
     refine L_y (.int .i64 ((w64 (o0 + (y4).Woven)))) rfl rfl rfl rfl u3 (P_int rfl rfl rfl) ?_
     refine L_y (fPtr p7 4) rfl rfl rfl rfl u3 (P_fieldAddr at_82_4 x6 (OB.ptr l5)) ?_
     refine L_ld (c := .int .i64 ((y4).Late)) rfl rfl (.yes2 rfl rfl u3) (fun _ _ h => ⟨h.ch, fun b hb _ => h.below.block b hb⟩) vC rfl ?_
     refine L_y (.bool ((decide ((w64 (o0 + (y4).Woven)) > (y4).Late)))) rfl rfl rfl rfl u3 (P_int rfl rfl rfl) ?_
     refine L_p (.bool ((decide ((w64 (o0 + (y4).Woven)) > (y4).Late)))) rfl rfl (P_pick (b := (decide ((y4).Width > t5))) rfl (pick_f u3 rfl)) ?_
     refine L_nl fun sD rE hs => ?_
     have hfr := hfr.ext hs
     clear hs
     refine EL_nil ?_
     obtain rfl := sinj h
     exact hQ _ _ ⟨sD, hfr, d7, rfl⟩
   ·clear hx
    obtain ⟨tD, hfr, bA, i7⟩ := hR
    rcases csome h with ⟨m8, h⟩ | ⟨m8, h⟩
    ·refine E_cond_true (Eq.trans (show ev _ _ = .bool (x5) from i7) (congrArg Value.bool m8)) ?_
     refine E_seq (E_region (EL_at (.int .i64 (1048576)) rfl rfl ?_))
     refine EL_nil (thn_n (E_ret (thn_r ?_)))
     obtain rfl := sinj h
     exact end1 rfl rfl (show _ = .int .i64 (1048576) from rfl) ⟨_, hfr, rfl⟩
    ·refine E_cond_false (Eq.trans (show ev _ _ = .bool (x5) from i7) (congrArg Value.bool m8)) ?_
     exact E_skip (thn_n (rC () _ _ ⟨tD, hfr, bA⟩ h))
  ·rintro _ cE sE ⟨tE, hfr, iA⟩ h
   refine E_seq (E_region (EL_mv iA rfl ?_))
   refine EL_at (.int .i64 (o0)) rfl rfl ?_
   refine EL_nil (thn_n (E_ret ?_))
   obtain rfl := sinj h
   exact end1 rfl rfl (show _ = .int .i64 (o0) from rfl) ⟨_, hfr, rfl⟩
def f106 (x0 : List Int) (x1 : Int) (x2 : Int) (x3 : Int → Int → Option Int) : Option ((List Int)) :=
 lp (σ := (List Int) × Int) (fun k1 (v8, x5) =>
  jn (σ := Unit) (fun _ =>
   Option.bind (α := (List Int)) (
    lp (σ := (List Int) × Int) (fun mB (l5, o0) =>
     jn (σ := Unit) (fun _ =>
      Option.bind (α := (List Int)) (
       (idx l5 (w64 (o0 - (1 : Int)))).bind fun m8 =>
       (idx l5 o0).bind fun x8 =>
       (idx l5 o0).bind fun eE =>
       (idx ((List.set l5 (Int.toNat o0) m8)) (w64 (o0 - (1 : Int)))).bind fun iE =>
       some ((List.set ((List.set l5 (Int.toNat o0) m8)) (Int.toNat (w64 (o0 - (1 : Int)))) x8))
       ) fun i7 =>
      mB (i7, (w64 (o0 - (1 : Int))))
      ) fun nB =>
     Option.bind (α := Bool) (
      bif (decide (o0 > x1)) then
       (idx l5 o0).bind fun a9 =>
       (idx l5 (w64 (o0 - (1 : Int)))).bind fun d9 =>
       (x3 a9 d9).bind fun l8 =>
       some ((decide (l8 < (0 : Int))))
      else
       some (false)
      ) fun j6 =>
     bif j6 then
      nB ()
     else
      some (l5)
     ) big (v8, x5)
    ) fun m7 =>
   k1 (m7, (w64 (x5 + (1 : Int))))
   ) fun k4 =>
  bif (decide (x5 < x2)) then
   k4 ()
  else
   some (v8)
  ) big (x0, (w64 (x1 + (1 : Int))))
theorem en106 : Enters Try.prog 106 := enters_of Try.func106 (by kernel_rfl) rfl
theorem wk106 {iI : Nat} {gI : Gh} {wI : World} {x0 : List Int} {x1 : Int} {x2 : Int} {x3 : Int → Int → Option Int} {up0 : Value} (mp0 : OM iI gI wI 3 x0 up0) {up3 : Value} (rp3 : FnV2 Try.prog x3 up3 gI wI) {r : (List Int)} (h : f106 x0 x1 x2 x3 = some r) : FnM Try.prog 106 #[up0, .int .i64 (x1), .int .i64 (x2), up3] iI gI wI (fun g w v => v = .tuple #[] ∧ OM iI g w 3 r up0) := by
 unfold f106 at h
 refine fnM_of_E Try.func106 rfl (Nat.le_of_ble_eq_true rfl) fun g0 hm hfr => ?_
 have vD := mp0
 replace mp0 := mp0.enter
 rw [← hm] at mp0
 replace hm : g0.m = gI.m := by rw [hm]
 obtain ⟨ff3, fa3, fc3, rfl, fen3, fcl3⟩ := rp3
 show E _ 53 none _ _ _ _ _
 refine E_seq (E_region (EL_mw (.int .i64 (x1)) rfl rfl ?_))
 refine EL_in (.int .i64 ((w64 (x1 + (1 : Int))))) rfl rfl rfl rfl ?_
 refine EL_at (.int .i64 ((w64 (x1 + (1 : Int))))) rfl rfl ?_
 refine EL_nil (thn_n (E_block ?_))
 refine E_lp h (fun (s : (List Int) × Int) e w => ∃ (g : Gh) , FrM iI gI wI g w ∧ e 0 = up0 ∧ OM 1 g w 3 (s.1 : List Int) up0 ∧ e 1 = .int .i64 (x1) ∧ e 2 = .int .i64 (x2) ∧ e 3 = (.func (.func ff3) fa3 fc3) ∧ e 8 = .int .i64 (s.2)) ⟨g0, hfr, rfl, mp0, rfl, rfl, rfl, rfl⟩ (fun X1 k1 hk1 => ?_)
 rintro ⟨v8, x5⟩ kG w2 ⟨g2, hfr, jE, oB, kE, tB, lE, vB⟩ h
 refine E_joinC h (fun (s : Unit) e w => ∃ (g : Gh) , FrM iI gI wI g w ∧ e 0 = up0 ∧ OM 1 g w 3 (v8 : List Int) up0 ∧ e 1 = .int .i64 (x1) ∧ e 2 = .int .i64 (x2) ∧ e 3 = (.func (.func ff3) fa3 fc3) ∧ e 8 = .int .i64 (x5)) (fun X4 k4 hk4 h => ?_) ?_
 ·refine E_seq (E_region (EL_mv vB rfl ?_))
  refine EL_mv tB rfl ?_
  refine EL_in (.bool ((decide (x5 < x2)))) rfl rfl rfl rfl ?_
  refine EL_nil (thn_n ?_)
  rcases csome h with ⟨hc5, h⟩ | ⟨hc5, h⟩
  ·refine E_ct hc5 rfl ?_
   exact E_skip (thn_n (hk4 () _ _ ⟨g2, hfr, jE, oB, kE, tB, lE, vB⟩ h))
  ·refine E_cf hc5 rfl ?_
   refine E_exit ?_
   refine thn_e ?_
   refine thn_e ?_
   refine blk_hit ?_
   obtain rfl := sinj h
   exact end0n rfl rfl ⟨_, hfr, rfl, vD.back oB⟩
 ·rintro _ lG w6 ⟨g6, hfr, mE, nE, oE, rE, sE, yB⟩ h
  obtain ⟨m7, hx, h⟩ := bsome h
  refine E_join (fun e w => ∃ (g : Gh) , FrM iI gI wI g w ∧ e 0 = up0 ∧ OM 1 g w 3 (m7 : List Int) up0 ∧ e 1 = .int .i64 (x1) ∧ e 2 = .int .i64 (x2) ∧ e 3 = (.func (.func ff3) fa3 fc3) ∧ e 8 = .int .i64 (x5)) (fun Q' hQ => ?_) (fun pF uF hR => ?_)
  ·replace h := hx
   clear hx
   refine E_block ?_
   refine E_seq (E_region (EL_mv yB rfl ?_))
   refine EL_at (.int .i64 (x5)) rfl rfl ?_
   refine EL_nil (thn_n (E_block ?_))
   refine E_lp h (fun (s : (List Int) × Int) e w => ∃ (g : Gh) , FrM iI gI wI g w ∧ e 0 = up0 ∧ OM 1 g w 3 (s.1 : List Int) up0 ∧ e 1 = .int .i64 (x1) ∧ e 2 = .int .i64 (x2) ∧ e 3 = (.func (.func ff3) fa3 fc3) ∧ e 8 = .int .i64 (x5) ∧ e 9 = .int .i64 (s.2)) ⟨g6, hfr, mE, nE, oE, rE, sE, yB, rfl⟩ (fun X297 mB xD => ?_)
   rintro ⟨l5, o0⟩ qF vF ⟨zB, hfr, g8, t5, k8, l9, n8, n9, x6⟩ h
   refine E_joinC h (fun (s : Unit) e w => ∃ (g : Gh) , FrM iI gI wI g w ∧ e 0 = up0 ∧ OM 1 g w 3 (l5 : List Int) up0 ∧ e 1 = .int .i64 (x1) ∧ e 2 = .int .i64 (x2) ∧ e 3 = (.func (.func ff3) fa3 fc3) ∧ e 8 = .int .i64 (x5) ∧ e 9 = .int .i64 (o0)) (fun X411 nB yD h => ?_) ?_
   ·obtain ⟨j6, hx, h⟩ := bsome h
    refine E_join (fun e w => ∃ (g : Gh) , FrM iI gI wI g w ∧ e 0 = up0 ∧ OM 1 g w 3 (l5 : List Int) up0 ∧ e 1 = .int .i64 (x1) ∧ e 2 = .int .i64 (x2) ∧ e 3 = (.func (.func ff3) fa3 fc3) ∧ e 8 = .int .i64 (x5) ∧ e 9 = .int .i64 (o0) ∧ e 34 = .bool (j6)) (fun Q' hQ => ?_) (fun rF xF hR => ?_)
    ·replace h := hx
     clear hx
     rcases csome h with ⟨u3, h⟩ | ⟨u3, h⟩
     ·obtain ⟨a9, yA, h⟩ := bsome h
      refine L_loadM (x := .tmp 25) Try.isAgg3 Try.sizeOf3 t5 yA fun yF tE zD => ?_
      obtain rfl := RV_int.1 tE
      obtain ⟨d9, aB, h⟩ := bsome h
      refine L_loadM (x := .tmp 30) Try.isAgg3 Try.sizeOf3 t5 aB fun zF uE aE => ?_
      obtain rfl := RV_int.1 uE
      obtain ⟨l8, bE, h⟩ := bsome h
      refine E_drawL (g := zB) (n := 17) [(14, (fun v g w => v = .int .i64 (l8)))] [0, 1, 2, 3, 4, 5, 6, 7, 8, 9, 10, 11, 12, 13, 14, 15, 16] rfl mixed (by kernel_rfl) (⟨fun _ => up_eq _, trivial⟩) ?_
      refine L_p (.int .i64 (o0)) rfl rfl (P_move x6) ?_
      refine L_p (.int .i64 (x1)) rfl rfl (P_move k8) ?_
      refine L_p (.bool ((decide (o0 > x1)))) rfl rfl (P_int rfl rfl rfl) ?_
      refine L_p (.bool ((decide (o0 > x1)))) rfl rfl (P_move rfl) ?_
      refine L_y ((.func (.func ff3) fa3 fc3)) rfl rfl rfl rfl u3 (P_move n8) ?_
      refine L_y up0 rfl rfl rfl rfl u3 (P_move g8) ?_
      refine L_y (.int .i64 (o0)) rfl rfl rfl rfl u3 (P_move x6) ?_
      refine L_y (ePtr up0 o0 1) rfl rfl rfl rfl u3 (P_indexAddrM (α := Int) Try.underlying22 Try.sizeOf3 rfl t5 rfl yA) ?_
      refine L_ld (c := .int .i64 (a9)) rfl rfl (.yes2 rfl rfl u3) (fun _ _ h => ⟨h.ch, fun b hb _ => h.below.block b hb⟩) zD rfl ?_
      refine L_y up0 rfl rfl rfl rfl u3 (P_move g8) ?_
      refine L_y (.int .i64 (o0)) rfl rfl rfl rfl u3 (P_move x6) ?_
      refine L_y (.int .i64 ((w64 (o0 - (1 : Int))))) rfl rfl rfl rfl u3 (P_int rfl rfl rfl) ?_
      refine L_y (ePtr up0 (w64 (o0 - (1 : Int))) 1) rfl rfl rfl rfl u3 (P_indexAddrM (α := Int) Try.underlying22 Try.sizeOf3 rfl t5 rfl aB) ?_
      refine L_ld (c := .int .i64 (d9)) rfl rfl (.yes2 rfl rfl u3) (fun _ _ h => ⟨h.ch, fun b hb _ => h.below.block b hb⟩) aE rfl ?_
      refine L_do (φ := fun v g w => v = .int .i64 (l8)) rfl rfl (.yes2 rfl rfl u3) (fun g w hd => D_callv (g := g) (vs := [.int .i64 (a9), .int .i64 (d9)]) rfl fen3 (.cons rfl (.cons rfl .nil)) (fcl3 _ _ (hfr.ext hd.1).ch _ _ _ _ _  (RV_int.2 rfl) (RV_int.2 rfl) bE) fun g' w' v hs hr => ⟨g', hs, RV_int.1 hr⟩) (fun aG hv => ?_)
      obtain ⟨_, _, _, rfl⟩ := hv
      refine L_y (.bool ((decide (l8 < (0 : Int))))) rfl rfl rfl rfl u3 (P_int rfl rfl rfl) ?_
      refine L_p (.bool ((decide (l8 < (0 : Int))))) rfl rfl (P_pick (b := (decide (o0 > x1))) rfl (pick_t u3 rfl)) ?_
      refine L_nl fun vE bG hs => ?_
      have hfr := hfr.ext hs
      have t5 := t5.ext hs
      clear hs
      refine EL_nil ?_
      obtain rfl := sinj h
      exact hQ _ _ ⟨vE, hfr, g8, t5, k8, l9, n8, n9, x6, rfl⟩
     ·refine E_drawL (g := zB) (n := 17) [] [0, 1, 2, 3, 4, 5, 6, 7, 8, 9, 10, 11, 12, 13, 14, 15, 16] rfl mixed (by kernel_rfl) trivial ?_
      refine L_p (.int .i64 (o0)) rfl rfl (P_move x6) ?_
      refine L_p (.int .i64 (x1)) rfl rfl (P_move k8) ?_
      refine L_p (.bool ((decide (o0 > x1)))) rfl rfl (P_int rfl rfl rfl) ?_
      refine L_p (.bool ((decide (o0 > x1)))) rfl rfl (P_move rfl) ?_
      iterate 12 refine L_s rfl rfl rfl u3 rfl ?_
      refine L_p (.bool false) rfl rfl (P_pick (b := (decide (o0 > x1))) rfl (pick_f u3 rfl)) ?_
      refine L_nl fun xE cG hs => ?_
      have hfr := hfr.ext hs
      have t5 := t5.ext hs
      clear hs
      refine EL_nil ?_
      obtain rfl := sinj h
      exact hQ _ _ ⟨xE, hfr, g8, t5, k8, l9, n8, n9, x6, rfl⟩
    ·clear hx
     obtain ⟨cC, hfr, u9, y9, z9, bA, iA, rA, eC, r8⟩ := hR
     rcases csome h with ⟨k9, h⟩ | ⟨k9, h⟩
     ·refine E_cond_true (Eq.trans (show ev _ _ = .bool (j6) from r8) (congrArg Value.bool k9)) ?_
      exact E_skip (thn_n (yD () _ _ ⟨cC, hfr, u9, y9, z9, bA, iA, rA, eC⟩ h))
     ·refine E_cond_false (Eq.trans (show ev _ _ = .bool (j6) from r8) (congrArg Value.bool k9)) ?_
      refine E_exit ?_
      refine thn_e ?_
      refine thn_e ?_
      refine blk_hit ?_
      refine blk_n ?_
      obtain rfl := sinj h
      exact hQ _ _ ⟨cC, hfr, u9, y9, z9, bA, iA, rA⟩
   ·rintro _ sF yE ⟨mC, hfr, y6, i6, qC, rC, uC, vC, d7⟩ h
    obtain ⟨i7, hx, h⟩ := bsome h
    refine E_join (fun e w => ∃ (g : Gh) , FrM iI gI wI g w ∧ e 0 = up0 ∧ OM 1 g w 3 (i7 : List Int) up0 ∧ e 1 = .int .i64 (x1) ∧ e 2 = .int .i64 (x2) ∧ e 3 = (.func (.func ff3) fa3 fc3) ∧ e 8 = .int .i64 (x5) ∧ e 9 = .int .i64 (o0)) (fun Q' hQ => ?_) (fun tF eG hR => ?_)
    ·replace h := hx
     clear hx
     refine E_block ?_
     obtain ⟨m8, dB, h⟩ := bsome h
     refine L_loadM (x := .tmp 45) Try.isAgg3 Try.sizeOf3 i6 dB fun gG zE cE => ?_
     obtain rfl := RV_int.1 zE
     obtain ⟨x8, iB, h⟩ := bsome h
     refine L_loadM (x := .tmp 49) Try.isAgg3 Try.sizeOf3 i6 iB fun hG cF dE => ?_
     obtain rfl := RV_int.1 cF
     obtain ⟨eE, jB, h⟩ := bsome h
     refine E_drawTL (g := mC) (n := 15) [2, 3, 4] [] [0, 1, 2, 3, 4, 5, 6, 7, 8, 9, 10, 11, 12, 13, 14] rfl mixed (by kernel_rfl) trivial rfl ?_
     refine L_p up0 rfl rfl (P_move y6) ?_
     refine L_p (.int .i64 (o0)) rfl rfl (P_move d7) ?_
     refine L_purL (c := up0) rfl rfl .plain (P_move y6) ?_
     refine L_purL (c := .int .i64 (o0)) rfl rfl .plain (P_move d7) ?_
     refine L_purL (c := .int .i64 ((w64 (o0 - (1 : Int))))) rfl rfl .plain (P_int rfl rfl rfl) ?_
     refine L_p up0 rfl rfl (P_move y6) ?_
     refine L_p (.int .i64 (o0)) rfl rfl (P_move d7) ?_
     refine L_p (.int .i64 ((w64 (o0 - (1 : Int))))) rfl rfl (P_int rfl rfl rfl) ?_
     refine L_p (ePtr up0 (w64 (o0 - (1 : Int))) 1) rfl rfl (P_indexAddrM (α := Int) Try.underlying22 Try.sizeOf3 rfl i6 rfl dB) ?_
     refine L_ld (c := .int .i64 (m8)) rfl rfl .plain (fun _ _ h => ⟨h.ch, fun b hb _ => h.below.block b hb⟩) cE rfl ?_
     refine L_p up0 rfl rfl (P_move y6) ?_
     refine L_p (.int .i64 (o0)) rfl rfl (P_move d7) ?_
     refine L_p (ePtr up0 o0 1) rfl rfl (P_indexAddrM (α := Int) Try.underlying22 Try.sizeOf3 rfl i6 rfl iB) ?_
     refine L_ld (c := .int .i64 (x8)) rfl rfl .plain (fun _ _ h => ⟨h.ch, fun b hb _ => h.below.block b hb⟩) dE rfl ?_
     refine L_p (ePtr up0 o0 1) rfl rfl (P_indexAddrM (α := Int) Try.underlying22 Try.sizeOf3 rfl i6 rfl jB) ?_
     refine L_nl fun aD dF hs => ?_
     have hlt : Lt mC.m yE aD dF := hs.ch
     have hfr := hfr.ext hs
     have i6 := i6.ext hs
     clear hs
     refine TL_do hlt.w .plain rfl (D_storeM (g := aD) (α := Int) (a' := m8) Try.sizeOf3 rfl i6 jB rfl (RV_int.2 rfl) fun eF iG hs b582 => ?_)
     have hfr := hfr.stp hs
     have hlt := hlt.stp hs
     obtain ⟨iE, lB, h⟩ := bsome h
     refine TL_pur hlt.w (v := ePtr up0 (w64 (o0 - (1 : Int))) 1) (P_indexAddrM (α := Int) Try.underlying22 Try.sizeOf3 rfl b582 rfl lB) .plain rfl ?_
     refine TL_do hlt.w .plain rfl (D_storeM (g := eF) (α := Int) (a' := x8) Try.sizeOf3 rfl b582 lB rfl (RV_int.2 rfl) fun iF jG hs b584 => ?_)
     have hfr := hfr.stp hs
     have hlt := hlt.stp hs
     refine TL_nil hlt.w ?_
     clear hlt
     refine blk_n ?_
     obtain rfl := sinj h
     exact hQ _ _ ⟨iF, hfr, y6, b584, qC, rC, uC, vC, d7⟩
    ·clear hx
     obtain ⟨nF, hfr, bD, cD, eD, gD, iD, jD, lD⟩ := hR
     refine E_region (EL_mv lD rfl ?_)
     refine EL_in (.int .i64 ((w64 (o0 - (1 : Int))))) rfl rfl rfl rfl ?_
     refine EL_at (.int .i64 ((w64 (o0 - (1 : Int))))) rfl rfl ?_
     exact EL_nil (thn_n (xD (i7, (w64 (o0 - (1 : Int)))) _ _ ⟨nF, hfr, bD, cD, eD, gD, iD, jD, rfl⟩ h))
  ·clear hx
   obtain ⟨oF, hfr, mD, nD, oD, sD, tD, uD⟩ := hR
   refine E_region (EL_mv uD rfl ?_)
   refine EL_in (.int .i64 ((w64 (x5 + (1 : Int))))) rfl rfl rfl rfl ?_
   refine EL_at (.int .i64 ((w64 (x5 + (1 : Int))))) rfl rfl ?_
   exact EL_nil (thn_n (hk1 (m7, (w64 (x5 + (1 : Int)))) _ _ ⟨oF, hfr, mD, nD, oD, sD, tD, rfl⟩ h))
end Go.Proofs.Ytnfjhdagbknlbaa
