import Derived.Test.YtnfjhdagbknlbaaCode1
set_option maxRecDepth 8000
set_option maxHeartbeats 4000000
namespace Go.Proofs.Ytnfjhdagbknlbaa
open Go.RowKit
def f92 (x0 : List LoomRun) (x1 : Int) : Option (Int) :=
 Option.bind (α := Int) (
  lp (σ := Int × Int) (fun x8 (j3, o0) =>
   jn (σ := Unit) (fun _ =>
    Option.bind (α := Int) (
     Option.bind (α := Bool) (
      bif (o0 != x1) then
       (idx x0 o0).bind fun u3 =>
       (idx x0 x1).bind fun z3 =>
       bif ((u3).Loom == (z3).Loom) then
        (idx x0 o0).bind fun y8 =>
        (idx x0 x1).bind fun a9 =>
        (f76 y8 a9).bind fun z4 =>
        bif z4 then
         bif (decide (j3 < (0 : Int))) then
          some (true)
         else
          (idx x0 j3).bind fun d9 =>
          (idx x0 o0).bind fun e9 =>
          (f76 d9 e9).bind fun v6 =>
          some (v6)
        else
         some (false)
       else
        some (false)
      else
       some (false)
      ) fun t5 =>
     bif t5 then
      some (o0)
     else
      some (j3)
     ) fun x6 =>
    x8 (x6, (w64 (o0 + (1 : Int))))
    ) fun i9 =>
   bif (decide (o0 < ((x0).length : Int))) then
    i9 ()
   else
    some (j3)
   ) big ((-1 : Int), (0 : Int))
  ) fun x5 =>
 some (x5)
def f96 (x0 : Int) (z0 : Int) (z1 : Int) : Option (Bool) :=
 Option.bind (α := Bool) (
  bif (decide (x0 < z0)) then
   some (true)
  else
   some ((decide (x0 > z1)))
  ) fun o0 =>
 some (o0)
theorem en96 : Enters Try.prog 96 := enters_of Try.func96 (by kernel_rfl) rfl
theorem wk96 {gI : Gh} {wI : World} {x0 : Int} {z0 : Int} {z1 : Int} {pf0 : Value} (qf0 : PT gI.m wI z0 pf0) {pf1 : Value} (qf1 : PT gI.m wI z1 pf1) {r : Bool} (h : f96 x0 z0 z1 = some r) : Fn Try.prog 96 #[.int .i64 (x0), pf0, pf1] gI wI (fun _ _ v => v = .bool (r)) := by
 unfold f96 at h
 refine fn_of_E Try.func96 rfl (Nat.le_of_ble_eq_true rfl) fun g0 hm hfr => ?_
 have qf0 : PT g0.m wI z0 pf0 := hm ▸ qf0
 have qf1 : PT g0.m wI z1 pf1 := hm ▸ qf1
 show E _ 13 none _ _ _ _ _
 refine Zf (Za (Zg (.bool false) rfl rfl ?_))
 refine Zb (Zd ?_)
 obtain ⟨o0, hx, h⟩ := bsome h
 refine E_join (fun e w => ∃ (g : Gh) , Fr gI wI g w ∧ e 4 = .bool (o0)) (fun Q' hQ => ?_) (fun j1 w7 hR => ?_)
 ·replace h := hx
  clear hx
  refine Za (Zn (.int .i64 (x0)) rfl rfl ?_)
  refine Ze .plain rfl (D_load (g := g0) Try.isAgg3 Try.sizeOf3 rfl qf0 fun v4 r4 => ?_)
  obtain rfl := Zj.1 r4
  refine EL_in (.bool ((decide (x0 < z0)))) rfl rfl rfl rfl ?_
  refine Zn (.bool ((decide (x0 < z0)))) rfl rfl ?_
  rcases Zt h with ⟨hc5, h⟩ | ⟨hc5, h⟩
  ·refine EL_s rfl rfl hc5 rfl rfl ?_
   refine EL_s rfl rfl hc5 rfl rfl ?_
   refine EL_s rfl rfl hc5 rfl rfl ?_
   refine EL_p (.bool true) (Zl (b := (decide (x0 < z0))) rfl (pick_t hc5 rfl)) rfl ?_
   refine Zg (.bool true) rfl rfl ?_
   refine Zb ?_
   obtain rfl := sinj h
   exact hQ _ _ ⟨g0, hfr, rfl⟩
  ·refine EL_y (.int .i64 (x0)) (Zk rfl) rfl rfl hc5 rfl ?_
   refine Ze (.yes2 rfl rfl hc5) rfl (D_load (g := g0) Try.isAgg3 Try.sizeOf3 rfl qf1 fun v6 r6 => ?_)
   obtain rfl := Zj.1 r6
   refine EL_y (.bool ((decide (x0 > z1)))) (P_int rfl rfl rfl) rfl rfl hc5 rfl ?_
   refine EL_p (.bool ((decide (x0 > z1)))) (Zl (b := (decide (x0 < z0))) rfl (pick_f hc5 rfl)) rfl ?_
   refine Zg (.bool ((decide (x0 > z1)))) rfl rfl ?_
   refine Zb ?_
   obtain rfl := sinj h
   exact hQ _ _ ⟨g0, hfr, rfl⟩
 ·clear hx
  obtain ⟨g7, hfr, u0⟩ := hR
  refine E_ret ?_
  obtain rfl := sinj h
  exact end1 rfl rfl (show _ = .bool (o0) from u0) ⟨_, hfr, rfl⟩
def f97 (x0 : List LoomOrder) (x1 : LoomOrder → Option Bool) : Option (Int) :=
 jn (σ := Unit) (fun _ =>
  some ((-1 : Int))
  ) fun k18 =>
 lp (σ := Int) (fun k19 o0 =>
  bif (decide (o0 < ((x0).length : Int))) then
   jn (σ := Unit) (fun _ =>
    k19 ((w64 (o0 + (1 : Int))))
    ) fun k28 =>
   (idx x0 o0).bind fun x5 =>
   (x1 x5).bind fun i6 =>
   bif i6 then
    some (o0)
   else
    k28 ()
  else
   k18 ()
  ) big ((0 : Int))
theorem en97 : Enters Try.prog 97 := enters_of Try.func97 (by kernel_rfl) rfl
theorem wk97 {gI : Gh} {wI : World} {x0 : List LoomOrder} {x1 : LoomOrder → Option Bool} {up0 : Value} (rp0 : RV gI.m wI x0 up0) {up1 : Value} (rp1 : FnV1 Try.prog x1 up1 gI wI) {r : Int} (h : f97 x0 x1 = some r) : Fn Try.prog 97 #[up0, up1] gI wI (fun _ _ v => v = .int .i64 (r)) := by
 unfold f97 at h
 refine fn_of_E Try.func97 rfl (Nat.le_of_ble_eq_true rfl) fun g0 hm hfr => ?_
 have rp0 : RV g0.m wI x0 up0 := hm ▸ rp0
 obtain ⟨ff1, fa1, fc1, rfl, fen1, fcl1⟩ := rp1
 show E _ 19 none _ _ _ _ _
 refine Zf (Za (Zg (.int .i64 (0)) rfl rfl ?_))
 refine Zb (Zd (Zq h (fun (s : Unit) e w => ∃ (g : Gh) , Fr gI wI g w) (fun X18 k18 j6 h => ?_) ?_))
 ·refine Zf (Za (Zn up0 rfl rfl ?_))
  refine EL_p (.int .i64 ((x0).length : Int)) (P_len Try.underlying25 rfl rp0) rfl ?_
  refine Zn (.int .i64 (0)) rfl rfl ?_
  refine Zb (Zd (Zr ?_))
  refine E_lp h (fun (s : Int) e w => ∃ (g : Gh) , Fr gI wI g w ∧ e 0 = up0 ∧ RV g.m w (x0 : List LoomOrder) up0 ∧ e 1 = (.func (.func ff1) fa1 fc1) ∧ e 7 = .int .i64 (((x0).length : Int)) ∧ e 8 = .int .i64 (s)) ⟨g0, hfr, rfl, rp0, rfl, rfl, rfl⟩ (fun X19 k19 v6 => ?_)
  rintro o0 g7 m7 ⟨u3, hfr, i3, u0, j3, o3, j1⟩ h
  refine Zf (Za (EL_in (.bool ((decide (o0 < ((x0).length : Int))))) j1 o3 rfl rfl ?_))
  refine Zb (Zd (Zf ?_))
  rcases Zt h with ⟨z2, h⟩ | ⟨z2, h⟩
  ·refine E_ct z2 rfl ?_
   refine Zu (Zd (Zq h (fun (s : Unit) e w => ∃ (g : Gh) , Fr gI wI g w ∧ e 0 = up0 ∧ RV g.m w (x0 : List LoomOrder) up0 ∧ e 1 = (.func (.func ff1) fa1 fc1) ∧ e 7 = .int .i64 (((x0).length : Int)) ∧ e 8 = .int .i64 (o0)) (fun X28 k28 x6 h => ?_) ?_))
   ·refine Zr ?_
    refine Zf (Za (Zo j1 rfl ?_))
    refine Zg (.int .i64 (o0)) rfl rfl ?_
    refine Zb (Zd (Zf (Za (Zo j3 rfl ?_))))
    refine Zo i3 rfl ?_
    refine Zn (.int .i64 (o0)) rfl rfl ?_
    obtain ⟨x5, z3, h⟩ := bsome h
    refine EL_p (ePtr up0 o0 5) (Zh (α := LoomOrder) Try.underlying25 Try.sizeOf82 rfl u0 rfl z3) rfl ?_
    have a7 := PT_idx u0 z3
    refine Ze .plain rfl (D_load (g := u3) Try.isAgg82 Try.sizeOf82 rfl a7 fun b7 c7 => ?_)
    obtain ⟨i6, y6, h⟩ := bsome h
    refine Ze .plain rfl (D_callv (g := u3) (vs := [b7]) rfl fen1 (.cons rfl .nil) (fcl1 _ _ hfr.ch _ _ _  c7 y6) fun d7 n7 o7 hs hr => ?_)
    have hfr := hfr.ext hs
    have u0 := u0.ext hs
    obtain rfl := RV_bool.1 hr
    refine Zb (Zd ?_)
    rcases Zt h with ⟨d3, h⟩ | ⟨d3, h⟩
    ·refine E_ct d3 rfl ?_
     refine Zf (Za (Zn (.int .i64 (o0)) rfl rfl ?_))
     refine Zg (.int .i64 (o0)) rfl rfl ?_
     refine Zb (Zd (E_ret (blk_r ?_)))
     refine thn_r ?_
     refine thn_r ?_
     refine blk_r ?_
     refine thn_r ?_
     obtain rfl := sinj h
     exact end1 rfl rfl (show _ = .int .i64 (o0) from rfl) ⟨_, hfr, rfl⟩
    ·refine E_cf d3 rfl ?_
     exact Zu (blk_n (Zd (x6 () _ _ ⟨d7, hfr, i3, u0, j3, o3, j1⟩ h)))
   ·rintro _ i7 u7 ⟨e7, hfr, z4, i5, l5, q5, t5⟩ h
    refine Za (EL_in (.int .i64 ((w64 (o0 + (1 : Int))))) t5 rfl rfl rfl ?_)
    refine Zn (.int .i64 ((w64 (o0 + (1 : Int))))) rfl rfl ?_
    exact Zb (Zd (v6 ((w64 (o0 + (1 : Int)))) _ _ ⟨e7, hfr, z4, i5, l5, q5, rfl⟩ h))
  ·refine E_cf z2 rfl ?_
   refine E_exit ?_
   refine thn_e ?_
   refine thn_e ?_
   refine blk_hit ?_
   exact Zd (j6 () _ _ ⟨u3, hfr⟩ h)
 ·rintro _ j7 v7 ⟨c8, hfr⟩ h
  refine Zf (Za (Zg (.int .i64 (-1)) rfl rfl ?_))
  refine Zb (Zd (E_ret ?_))
  obtain rfl := sinj h
  exact end1 rfl rfl (show _ = .int .i64 (-1) from rfl) ⟨_, hfr, rfl⟩
def f99 (z0 : Int) (σ : Type) (cons : Cons σ Int) (s0 : σ) : Option σ :=
 lp (σ := σ × Int) (fun k2 (t5, o0) =>
  jn (σ := σ) (fun i3 =>
   k2 (i3, (bit64 .and (w64 (o0 - (1 : Int))) z0))
   ) fun b7 =>
  Option.bind (α := σ × Bool) (
   (cons t5 o0).bind fun (d3, z3) =>
   bif (!d3) then
    some (z3, true)
   else
    some (z3, (o0 == (0 : Int)))
   ) fun (z2, u0) =>
  bif u0 then
   some z2
  else
   b7 (z2)
  ) big (s0, z0)
theorem en99 : Enters Try.prog 99 := enters_of Try.func99 (by kernel_rfl) rfl
theorem wk99 {σ : Type} {cons : Cons σ Int} {s0 r : σ} {gI : Gh} {wI : World} {z0 : Int} {pf0 : Value} (qf0 : PT gI.m wI z0 pf0) (h : f99 z0 σ cons s0 = some r) : IterC Try.prog (RA1 (α := Int)) 99 #[] #[pf0] gI wI cons s0 r := by
 unfold f99 at h
 refine iter_of_E Try.func99 rfl (Nat.le_of_ble_eq_true rfl) fun l B J g0 hm hAb hRo hfr => ?_
 have qf0 : PT g0.m wI z0 pf0 := hm ▸ qf0
 show E _ 17 none _ _ (envAt #[.func (.yield l) #[] #[], pf0]) _ _
 refine Zf (Za (Ze .plain rfl (D_load (g := g0) Try.isAgg3 Try.sizeOf3 rfl qf0 fun v1 r1 => ?_)))
 obtain rfl := Zj.1 r1
 refine Zg (.int .i64 (z0)) rfl rfl ?_
 refine Zb (Zd (Zr ?_))
 refine E_lp h (fun (s : σ × Int) e w => ∃ (g : Gh) , FrY gI wI B J (s.1) g w ∧ e 0 = (.func (.yield l) #[] #[]) ∧ e 1 = pf0 ∧ PT g.m w (z0 : Int) pf0 ∧ e 3 = .int .i64 (s.2)) ⟨g0, hfr, rfl, rfl, qf0, rfl⟩ (fun X2 k2 hk2 => ?_)
 rintro ⟨t5, o0⟩ u7 w3 ⟨g3, hfr, z4, x5, j3, o3⟩ h
 refine Zq h (fun (s : σ) e w => ∃ (g : Gh) , FrY gI wI B J (s) g w ∧ e 0 = (.func (.yield l) #[] #[]) ∧ e 1 = pf0 ∧ PT g.m w (z0 : Int) pf0 ∧ e 3 = .int .i64 (o0)) (fun X12 b7 e7 h => ?_) ?_
 ·refine Zr ?_
  obtain ⟨⟨z2, u0⟩, hx, h⟩ := bsome h
  refine E_join (fun e w => ∃ (g : Gh) , FrY gI wI B J (z2) g w ∧ e 0 = (.func (.yield l) #[] #[]) ∧ e 1 = pf0 ∧ PT g.m w (z0 : Int) pf0 ∧ e 3 = .int .i64 (o0) ∧ e 16 = .bool (u0)) (fun Q' hQ => ?_) (fun n7 v7 hR => ?_)
  ·replace h := hx
   clear hx
   refine Za (Zo z4 rfl ?_)
   refine Zo o3 rfl ?_
   obtain ⟨i7, g7, h⟩ := bsome h
   obtain ⟨d3, z3⟩ := i7
   refine Ze .plain rfl (D_yield (g := g3) (x := o0) rfl (.cons rfl .nil) hRo hfr g7 ⟨_, rfl, (Zj.2 rfl)⟩ fun c7 c8 hs hfrY => ?_)
   have j3 := j3.stp hs
   have hfr := hfrY
   clear hfrY
   refine EL_p (.bool (!d3)) (P_not rfl) rfl ?_
   refine Zn (.bool (!d3)) rfl rfl ?_
   rcases Zt h with ⟨j1, h⟩ | ⟨j1, h⟩
   ·refine EL_s rfl rfl j1 rfl rfl ?_
    refine EL_s rfl rfl j1 rfl rfl ?_
    refine EL_p (.bool true) (Zl (b := (!d3)) rfl (pick_t j1 rfl)) rfl ?_
    refine Zb ?_
    obtain ⟨rfl, rfl⟩ := pairs2 h
    exact hQ _ _ ⟨c7, hfr, z4, x5, j3, o3, rfl⟩
   ·refine EL_y (.int .i64 (o0)) (Zk o3) rfl rfl j1 rfl ?_
    refine EL_y (.bool ((o0 == (0 : Int)))) (P_int rfl rfl rfl) rfl rfl j1 rfl ?_
    refine EL_p (.bool ((o0 == (0 : Int)))) (Zl (b := (!d3)) rfl (pick_f j1 rfl)) rfl ?_
    refine Zb ?_
    obtain ⟨rfl, rfl⟩ := pairs2 h
    exact hQ _ _ ⟨c7, hfr, z4, x5, j3, o3, rfl⟩
  ·clear hx
   obtain ⟨j7, hfr, i6, j6, v6, x6, u3⟩ := hR
   rcases Zt h with ⟨i5, h⟩ | ⟨i5, h⟩
   ·refine E_cond_true (Eq.trans (show ev _ _ = .bool (u0) from u3) (congrArg Value.bool i5)) ?_
    refine E_ret (blk_r ?_)
    refine thn_r ?_
    refine thn_r ?_
    refine blk_r ?_
    obtain rfl := sinj h
    exact end0 rfl rfl (FrY.done hfr)
   ·refine E_cond_false (Eq.trans (show ev _ _ = .bool (u0) from u3) (congrArg Value.bool i5)) ?_
    exact Zu (blk_n (Zd (e7 (z2) _ _ ⟨j7, hfr, i6, j6, v6, x6⟩ h)))
 ·rintro i3 o7 e8 ⟨d7, hfr, y6, l5, q5, a7⟩ h
  refine Za (Zo a7 rfl ?_)
  refine EL_in (.int .i64 ((w64 (o0 - (1 : Int))))) rfl rfl rfl rfl ?_
  refine Ze .plain rfl (D_load (g := d7) Try.isAgg3 Try.sizeOf3 l5 q5 fun g8 m7 => ?_)
  obtain rfl := Zj.1 m7
  refine EL_in (.int .i64 ((bit64 .and (w64 (o0 - (1 : Int))) z0))) rfl rfl rfl rfl ?_
  refine Zg (.int .i64 ((bit64 .and (w64 (o0 - (1 : Int))) z0))) rfl rfl ?_
  exact Zb (Zd (hk2 (i3, (bit64 .and (w64 (o0 - (1 : Int))) z0)) _ _ ⟨d7, hfr, y6, l5, q5, rfl⟩ h))
def f102 (x0 : Int) : Option (Bool) :=
 some ((x0 != x0))
theorem en102 : Enters Try.prog 102 := enters_of Try.func102 (by kernel_rfl) rfl
theorem wk102 {gI : Gh} {wI : World} {x0 : Int}  {r : Bool} (h : f102 x0 = some r) : Fn Try.prog 102 #[.int .i64 (x0)] gI wI (fun _ _ v => v = .bool (r)) := by
 unfold f102 at h
 refine fn_of_E Try.func102 rfl (Nat.le_of_ble_eq_true rfl) fun g0 hm hfr => ?_
 show E _ 6 none _ _ _ _ _
 refine Zf (Za (Zg (.bool false) rfl rfl ?_))
 refine Zb (Zd (Zf (Za (Zn (.int .i64 (x0)) rfl rfl ?_))))
 refine Zn (.int .i64 (x0)) rfl rfl ?_
 refine EL_in (.bool ((x0 != x0))) rfl rfl rfl rfl ?_
 refine Zg (.bool ((x0 != x0))) rfl rfl ?_
 refine Zb (Zd (E_ret ?_))
 obtain rfl := sinj h
 exact end1 rfl rfl (show _ = .bool ((x0 != x0)) from rfl) ⟨_, hfr, rfl⟩
def f103 (x0 : List Bool) (x1 : Bool) : Option (Int) :=
 jn (σ := Unit) (fun _ =>
  some ((-1 : Int))
  ) fun x5 =>
 lp (σ := Int) (fun i6 o0 =>
  bif (decide (o0 < ((x0).length : Int))) then
   jn (σ := Unit) (fun _ =>
    i6 ((w64 (o0 + (1 : Int))))
    ) fun j6 =>
   (idx x0 o0).bind fun y23 =>
   bif (x1 == y23) then
    some (o0)
   else
    j6 ()
  else
   x5 ()
  ) big ((0 : Int))
theorem en103 : Enters Try.prog 103 := enters_of Try.func103 (by kernel_rfl) rfl
theorem wk103 {gI : Gh} {wI : World} {x0 : List Bool} {x1 : Bool} {up0 : Value} (rp0 : RV gI.m wI x0 up0) {r : Int} (h : f103 x0 x1 = some r) : Fn Try.prog 103 #[up0, .bool (x1)] gI wI (fun _ _ v => v = .int .i64 (r)) := by
 unfold f103 at h
 refine fn_of_E Try.func103 rfl (Nat.le_of_ble_eq_true rfl) fun g0 hm hfr => ?_
 have rp0 : RV g0.m wI x0 up0 := hm ▸ rp0
 show E _ 19 none _ _ _ _ _
 refine Zf (Za (Zg (.int .i64 (0)) rfl rfl ?_))
 refine Zb (Zd (Zq h (fun (s : Unit) e w => ∃ (g : Gh) , Fr gI wI g w) (fun X14 x5 v6 h => ?_) ?_))
 ·refine Zf (Za (Zn up0 rfl rfl ?_))
  refine EL_p (.int .i64 ((x0).length : Int)) (P_len Try.underlying101 rfl rp0) rfl ?_
  refine Zn (.int .i64 (0)) rfl rfl ?_
  refine Zb (Zd (Zr ?_))
  refine E_lp h (fun (s : Int) e w => ∃ (g : Gh) , Fr gI wI g w ∧ e 0 = up0 ∧ RV g.m w (x0 : List Bool) up0 ∧ e 1 = .bool (x1) ∧ e 7 = .int .i64 (((x0).length : Int)) ∧ e 8 = .int .i64 (s)) ⟨g0, hfr, rfl, rp0, rfl, rfl, rfl⟩ (fun X15 i6 x6 => ?_)
  rintro o0 d7 i7 ⟨u3, hfr, i3, u0, j3, o3, j1⟩ h
  refine Zf (Za (EL_in (.bool ((decide (o0 < ((x0).length : Int))))) j1 o3 rfl rfl ?_))
  refine Zb (Zd (Zf ?_))
  rcases Zt h with ⟨z2, h⟩ | ⟨z2, h⟩
  ·refine E_ct z2 rfl ?_
   refine Zu (Zd (Zq h (fun (s : Unit) e w => ∃ (g : Gh) , Fr gI wI g w ∧ e 0 = up0 ∧ RV g.m w (x0 : List Bool) up0 ∧ e 1 = .bool (x1) ∧ e 7 = .int .i64 (((x0).length : Int)) ∧ e 8 = .int .i64 (o0)) (fun X22 j6 y6 h => ?_) ?_))
   ·refine Zr ?_
    refine Zf (Za (Zo j1 rfl ?_))
    refine Zg (.int .i64 (o0)) rfl rfl ?_
    refine Zb (Zd (Zf (Za (Zo j3 rfl ?_))))
    refine Zo i3 rfl ?_
    refine Zn (.int .i64 (o0)) rfl rfl ?_
    obtain ⟨y23, z3, h⟩ := bsome h
    refine EL_p (ePtr up0 o0 1) (Zh (α := Bool) Try.underlying101 Try.sizeOf4 rfl u0 rfl z3) rfl ?_
    have a7 := PT_idx u0 z3
    refine Ze .plain rfl (D_load (g := u3) Try.isAgg4 Try.sizeOf4 rfl a7 fun j7 b7 => ?_)
    obtain rfl := RV_bool.1 b7
    refine EL_p (.bool ((x1 == y23))) (P_bool Try.underlying4 rfl rfl rfl) rfl ?_
    refine Zb (Zd ?_)
    rcases Zt h with ⟨d3, h⟩ | ⟨d3, h⟩
    ·refine E_ct d3 rfl ?_
     refine Zf (Za (Zn (.int .i64 (o0)) rfl rfl ?_))
     refine Zg (.int .i64 (o0)) rfl rfl ?_
     refine Zb (Zd (E_ret (blk_r ?_)))
     refine thn_r ?_
     refine thn_r ?_
     refine blk_r ?_
     refine thn_r ?_
     obtain rfl := sinj h
     exact end1 rfl rfl (show _ = .int .i64 (o0) from rfl) ⟨_, hfr, rfl⟩
    ·refine E_cf d3 rfl ?_
     exact Zu (blk_n (Zd (y6 () _ _ ⟨u3, hfr, i3, u0, j3, o3, j1⟩ h)))
   ·rintro _ e7 m7 ⟨c7, hfr, z4, i5, l5, q5, t5⟩ h
    refine Za (EL_in (.int .i64 ((w64 (o0 + (1 : Int))))) t5 rfl rfl rfl ?_)
    refine Zn (.int .i64 ((w64 (o0 + (1 : Int))))) rfl rfl ?_
    exact Zb (Zd (x6 ((w64 (o0 + (1 : Int)))) _ _ ⟨c7, hfr, z4, i5, l5, q5, rfl⟩ h))
  ·refine E_cf z2 rfl ?_
   refine E_exit ?_
   refine thn_e ?_
   refine thn_e ?_
   refine blk_hit ?_
   exact Zd (v6 () _ _ ⟨u3, hfr⟩ h)
 ·rintro _ g7 n7 ⟨o7, hfr⟩ h
  refine Zf (Za (Zg (.int .i64 (-1)) rfl rfl ?_))
  refine Zb (Zd (E_ret ?_))
  obtain rfl := sinj h
  exact end1 rfl rfl (show _ = .int .i64 (-1) from rfl) ⟨_, hfr, rfl⟩
def f104 (x0 : List Int) (x1 : Int → Option Bool) : Option (Int) :=
 jn (σ := Unit) (fun _ =>
  some ((-1 : Int))
  ) fun k18 =>
 lp (σ := Int) (fun k19 o0 =>
  bif (decide (o0 < ((x0).length : Int))) then
   jn (σ := Unit) (fun _ =>
    k19 ((w64 (o0 + (1 : Int))))
    ) fun k28 =>
   (idx x0 o0).bind fun u3 =>
   (x1 u3).bind fun i6 =>
   bif i6 then
    some (o0)
   else
    k28 ()
  else
   k18 ()
  ) big ((0 : Int))
theorem en104 : Enters Try.prog 104 := enters_of Try.func104 (by kernel_rfl) rfl
theorem wk104 {gI : Gh} {wI : World} {x0 : List Int} {x1 : Int → Option Bool} {up0 : Value} (rp0 : RV gI.m wI x0 up0) {up1 : Value} (rp1 : FnV1 Try.prog x1 up1 gI wI) {r : Int} (h : f104 x0 x1 = some r) : Fn Try.prog 104 #[up0, up1] gI wI (fun _ _ v => v = .int .i64 (r)) := by
 unfold f104 at h
 refine fn_of_E Try.func104 rfl (Nat.le_of_ble_eq_true rfl) fun g0 hm hfr => ?_
 have rp0 : RV g0.m wI x0 up0 := hm ▸ rp0
 obtain ⟨ff1, fa1, fc1, rfl, fen1, fcl1⟩ := rp1
 show E _ 19 none _ _ _ _ _
 refine Zf (Za (Zg (.int .i64 (0)) rfl rfl ?_))
 refine Zb (Zd (Zq h (fun (s : Unit) e w => ∃ (g : Gh) , Fr gI wI g w) (fun X18 k18 j6 h => ?_) ?_))
 ·refine Zf (Za (Zn up0 rfl rfl ?_))
  refine EL_p (.int .i64 ((x0).length : Int)) (P_len Try.underlying22 rfl rp0) rfl ?_
  refine Zn (.int .i64 (0)) rfl rfl ?_
  refine Zb (Zd (Zr ?_))
  refine E_lp h (fun (s : Int) e w => ∃ (g : Gh) , Fr gI wI g w ∧ e 0 = up0 ∧ RV g.m w (x0 : List Int) up0 ∧ e 1 = (.func (.func ff1) fa1 fc1) ∧ e 7 = .int .i64 (((x0).length : Int)) ∧ e 8 = .int .i64 (s)) ⟨g0, hfr, rfl, rp0, rfl, rfl, rfl⟩ (fun X19 k19 v6 => ?_)
  rintro o0 e7 j7 ⟨z3, hfr, i3, u0, j3, o3, j1⟩ h
  refine Zf (Za (EL_in (.bool ((decide (o0 < ((x0).length : Int))))) j1 o3 rfl rfl ?_))
  refine Zb (Zd (Zf ?_))
  rcases Zt h with ⟨z2, h⟩ | ⟨z2, h⟩
  ·refine E_ct z2 rfl ?_
   refine Zu (Zd (Zq h (fun (s : Unit) e w => ∃ (g : Gh) , Fr gI wI g w ∧ e 0 = up0 ∧ RV g.m w (x0 : List Int) up0 ∧ e 1 = (.func (.func ff1) fa1 fc1) ∧ e 7 = .int .i64 (((x0).length : Int)) ∧ e 8 = .int .i64 (o0)) (fun X28 k28 x6 h => ?_) ?_))
   ·refine Zr ?_
    refine Zf (Za (Zo j1 rfl ?_))
    refine Zg (.int .i64 (o0)) rfl rfl ?_
    refine Zb (Zd (Zf (Za (Zo j3 rfl ?_))))
    refine Zo i3 rfl ?_
    refine Zn (.int .i64 (o0)) rfl rfl ?_
    obtain ⟨u3, z4, h⟩ := bsome h
    refine EL_p (ePtr up0 o0 1) (Zh (α := Int) Try.underlying22 Try.sizeOf3 rfl u0 rfl z4) rfl ?_
    have a7 := PT_idx u0 z4
    refine Ze .plain rfl (D_load (g := z3) Try.isAgg3 Try.sizeOf3 rfl a7 fun m7 b7 => ?_)
    obtain rfl := Zj.1 b7
    obtain ⟨i6, y6, h⟩ := bsome h
    refine Ze .plain rfl (D_callv (g := z3) (vs := [.int .i64 (u3)]) rfl fen1 (.cons rfl .nil) (fcl1 _ _ hfr.ch _ _ _  (Zj.2 rfl) y6) fun c7 n7 o7 hs hr => ?_)
    have hfr := hfr.ext hs
    have u0 := u0.ext hs
    obtain rfl := RV_bool.1 hr
    refine Zb (Zd ?_)
    rcases Zt h with ⟨d3, h⟩ | ⟨d3, h⟩
    ·refine E_ct d3 rfl ?_
     refine Zf (Za (Zn (.int .i64 (o0)) rfl rfl ?_))
     refine Zg (.int .i64 (o0)) rfl rfl ?_
     refine Zb (Zd (E_ret (blk_r ?_)))
     refine thn_r ?_
     refine thn_r ?_
     refine blk_r ?_
     refine thn_r ?_
     obtain rfl := sinj h
     exact end1 rfl rfl (show _ = .int .i64 (o0) from rfl) ⟨_, hfr, rfl⟩
    ·refine E_cf d3 rfl ?_
     exact Zu (blk_n (Zd (x6 () _ _ ⟨c7, hfr, i3, u0, j3, o3, j1⟩ h)))
   ·rintro _ g7 u7 ⟨d7, hfr, i5, l5, q5, t5, x5⟩ h
    refine Za (EL_in (.int .i64 ((w64 (o0 + (1 : Int))))) x5 rfl rfl rfl ?_)
    refine Zn (.int .i64 ((w64 (o0 + (1 : Int))))) rfl rfl ?_
    exact Zb (Zd (v6 ((w64 (o0 + (1 : Int)))) _ _ ⟨d7, hfr, i5, l5, q5, t5, rfl⟩ h))
  ·refine E_cf z2 rfl ?_
   refine E_exit ?_
   refine thn_e ?_
   refine thn_e ?_
   refine blk_hit ?_
   exact Zd (j6 () _ _ ⟨z3, hfr⟩ h)
 ·rintro _ i7 v7 ⟨c8, hfr⟩ h
  refine Zf (Za (Zg (.int .i64 (-1)) rfl rfl ?_))
  refine Zb (Zd (E_ret ?_))
  obtain rfl := sinj h
  exact end1 rfl rfl (show _ = .int .i64 (-1) from rfl) ⟨_, hfr, rfl⟩
def f105 (x0 : LoomLoomMill) (x1 : Int) (x2 : Int) (x3 : Int) (x4 : List (Int × LoomRun)) : Option (Int) :=
 (idx ((x0).orders) x1).bind fun y4 =>
 jn (σ := Int) (fun o0 =>
  jn (σ := Unit) (fun _ =>
   some (o0)
   ) fun v7 =>
  Option.bind (α := Bool) (
   (idx (((x0).LoomMill).Widths) x2).bind fun z2 =>
   bif (decide ((y4).Width > z2)) then
    some (true)
   else
    some ((decide ((w64 (o0 + (y4).Woven)) > (y4).Late)))
   ) fun d3 =>
  bif d3 then
   some ((1048576 : Int))
  else
   v7 ()
  ) fun c8 =>
 bif ((mget x4 x1).isSome) then
  jn (σ := Unit) (fun _ =>
   c8 ((((mget x4 x1).getD (⟨0, 0, 0⟩ : LoomRun))).From)
   ) fun k60 =>
  Option.bind (α := Bool) (
   bif ((((mget x4 x1).getD (⟨0, 0, 0⟩ : LoomRun))).Loom != x2) then
    some (true)
   else
    some ((decide ((((mget x4 x1).getD (⟨0, 0, 0⟩ : LoomRun))).From < (max64 (y4).Early x3))))
   ) fun j3 =>
  bif j3 then
   some ((1048576 : Int))
  else
   k60 ()
 else
  c8 ((max64 (y4).Early x3))
theorem en105 : Enters Try.prog 105 := enters_of Try.func105 (by kernel_rfl) rfl
theorem wk105 {gI : Gh} {wI : World} {x0 : LoomLoomMill} {x1 : Int} {x2 : Int} {x3 : Int} {x4 : List (Int × LoomRun)} {up0 : Value} (rp0 : RV gI.m wI x0 up0) {up4 : Value} (mq4 : MR (Value.int .i64) gI wI x4 up4) {r : Int} (h : f105 x0 x1 x2 x3 x4 = some r) : Fn Try.prog 105 #[up0, .int .i64 (x1), .int .i64 (x2), .int .i64 (x3), up4] gI wI (fun _ _ v => v = .int .i64 (r)) := by
 unfold f105 at h
 refine fn_of_E Try.func105 rfl (Nat.le_of_ble_eq_true rfl) fun g0 hm hfr => ?_
 have rp0 : RV g0.m wI x0 up0 := hm ▸ rp0
 have mq4 := MQ.enter mq4 hm hfr
 show E _ 62 none _ _ _ _ _
 refine Zf (Za (Ze .plain rfl (D_box (g := g0) rfl rp0 fun g1 w1 p1 hs q1 => ?_)))
 have hfr := hfr.ext hs
 have mq4 := mq4.ext hs
 refine Zg (.int .i64 (0)) rfl rfl ?_
 refine Zb (Zd (Zf (Za (EL_p (fPtr p1 2) (Zc at_96_1 rfl (PT.ptr q1)) rfl ?_))))
 have q2 := Zm (part_LoomLoomMill_1).1 q1
 refine Ze .plain rfl (D_load (g := g1) Try.isAgg25 Try.sizeOf25 rfl q2 fun v3 r3 => ?_)
 refine Zn (.int .i64 (x1)) rfl rfl ?_
 obtain ⟨y4, n9, h⟩ := bsome h
 refine EL_p (ePtr v3 x1 5) (Zh (α := LoomOrder) Try.underlying25 Try.sizeOf82 rfl r3 rfl n9) rfl ?_
 have q5 := PT_idx r3 n9
 refine Ze .plain rfl (D_load (g := g1) Try.isAgg82 Try.sizeOf82 rfl q5 fun v6 r6 => ?_)
 refine Ze .plain rfl (D_allocOc (g := g1) 2011 (⟨0, 0, 0, 0, 0⟩ : LoomOrder) Try.zeroValue82 (fun m w => ⟨_, (rep_two rep_int (rep_two rep_int (rep_two rep_int (rep_two rep_int rep_int)))), rfl⟩) fun g7 w7 p7 hs b7 cb => ?_)
 have hfr := hfr.stp hs
 have mq4 := mq4.stp hs
 have q1 := q1.stp hs
 have r6 := r6.stp hs
 clear cb
 refine Ze .plain rfl (D_storeOc (g := g7) (v := v6) Try.sizeOf82 rfl b7 rfl r6 fun g8 w8 hs b8 cb => ?_)
 clear cb
 have hfr := hfr.stp hs
 have mq4 := mq4.stp hs
 have q1 := q1.stp hs
 refine Zb (Zd (Zf (Za (EL_p (fPtr p7 3) (Zc at_82_3 rfl (OB.ptr b8)) rfl ?_))))
 refine Ze .plain rfl (D_loadF (g := g8) part_LoomOrder_3.1 Try.isAgg3 Try.sizeOf3 rfl b8 fun nB nA => ?_)
 obtain rfl := Zj.1 nA
 refine Zn (.int .i64 (x3)) rfl rfl ?_
 refine EL_p (.int .i64 (max64 (y4).Early x3)) (P_max rfl rfl) rfl ?_
 refine Zg (.int .i64 (max64 (y4).Early x3)) rfl rfl ?_
 refine Zb (Zd (Zq h (fun (s : Int) e w => ∃ (g : Gh) , Fr gI wI g w ∧ e 2 = .int .i64 (x2) ∧ e 5 = p1 ∧ PT g.m w (x0 : LoomLoomMill) p1 ∧ e 11 = p7 ∧ OB 2011 g w 82 (y4 : LoomOrder) p7 ∧ e 12 = .int .i64 (s)) (fun X43 c8 e8 h => ?_) ?_))
 ·refine Zf (Za (Zn up4 rfl rfl ?_))
  refine Zn (.int .i64 (x1)) rfl rfl ?_
  refine Ze .plain rfl (D_lookupOkR (g := g8) (z0 := (⟨0, 0, 0⟩ : LoomRun)) Try.underlying100 key_3 Try.zeroValue76 (fun m w => ⟨_, (rep_two rep_int (rep_two rep_int rep_int)), rfl⟩) rfl mq4.r rfl fun i8 k8 => ?_)
  refine Zn (.tuple #[i8, .bool ((mget x4 x1).isSome)]) rfl rfl ?_
  refine EL_p i8 (Zi rfl rfl) rfl ?_
  refine EL_p (.bool ((mget x4 x1).isSome)) (Zi rfl rfl) rfl ?_
  refine Ze .plain rfl (D_allocOc (g := g8) 2013 (⟨0, 0, 0⟩ : LoomRun) Try.zeroValue76 (fun m w => ⟨_, (rep_two rep_int (rep_two rep_int rep_int)), rfl⟩) fun oA oB u3 hs b45 cb => ?_)
  have hfr := hfr.stp hs
  have q1 := q1.stp hs
  have b8 := b8.stp hs rfl
  have k8 := k8.stp hs
  clear cb
  refine Ze .plain rfl (D_storeOc (g := oA) (v := i8) Try.sizeOf76 rfl b45 rfl k8 fun i6 tB hs b46 cb => ?_)
  clear cb
  have hfr := hfr.stp hs
  have q1 := q1.stp hs
  have b8 := b8.stp hs rfl
  refine Zg (.bool ((mget x4 x1).isSome)) rfl rfl ?_
  refine Zb (Zd (Zf (Za (Zn (.bool ((mget x4 x1).isSome)) rfl rfl ?_))))
  refine Zb (Zd ?_)
  rcases Zt h with ⟨y6, h⟩ | ⟨y6, h⟩
  ·refine E_ct y6 rfl ?_
   refine Zq h (fun (s : Unit) e w => ∃ (g : Gh) , Fr gI wI g w ∧ e 2 = .int .i64 (x2) ∧ e 5 = p1 ∧ PT g.m w (x0 : LoomLoomMill) p1 ∧ e 11 = p7 ∧ OB 2011 g w 82 (y4 : LoomOrder) p7 ∧ e 13 = u3 ∧ OB 2013 g w 76 (((mget x4 x1).getD (⟨0, 0, 0⟩ : LoomRun)) : LoomRun) u3) (fun X60 k60 u9 h => ?_) ?_
   ·obtain ⟨j3, hx, h⟩ := bsome h
    refine E_join (fun e w => ∃ (g : Gh) , Fr gI wI g w ∧ e 2 = .int .i64 (x2) ∧ e 5 = p1 ∧ PT g.m w (x0 : LoomLoomMill) p1 ∧ e 11 = p7 ∧ OB 2011 g w 82 (y4 : LoomOrder) p7 ∧ e 13 = u3 ∧ OB 2013 g w 76 (((mget x4 x1).getD (⟨0, 0, 0⟩ : LoomRun)) : LoomRun) u3 ∧ e 40 = .bool (j3)) (fun Q' hQ => ?_) (fun yA vB hR => ?_)
    ·replace h := hx
     clear hx
     refine Za (EL_p (fPtr u3 1) (Zc at_76_1 rfl (OB.ptr b46)) rfl ?_)
     refine Ze .plain rfl (D_loadF (g := i6) part_LoomRun_1.1 Try.isAgg3 Try.sizeOf3 rfl b46 fun xB pA => ?_)
     obtain rfl := Zj.1 pA
     refine Zn (.int .i64 (x2)) rfl rfl ?_
     refine EL_in (.bool (((((mget x4 x1).getD (⟨0, 0, 0⟩ : LoomRun))).Loom != x2))) rfl rfl rfl rfl ?_
     refine Zn (.bool (((((mget x4 x1).getD (⟨0, 0, 0⟩ : LoomRun))).Loom != x2))) rfl rfl ?_
     rcases Zt h with ⟨i3, h⟩ | ⟨i3, h⟩
     ·refine EL_s rfl rfl i3 rfl rfl ?_
      iterate 3 refine EL_s rfl rfl i3 rfl rfl ?_
      refine EL_p (.bool true) (Zl (b := ((((mget x4 x1).getD (⟨0, 0, 0⟩ : LoomRun))).Loom != x2)) rfl (pick_t i3 rfl)) rfl ?_
      refine Zb ?_
      obtain rfl := sinj h
      exact hQ _ _ ⟨i6, hfr, rfl, rfl, q1, rfl, b8, rfl, b46, rfl⟩
     ·refine EL_y (fPtr u3 2) (Zc at_76_2 rfl (OB.ptr b46)) rfl rfl i3 rfl ?_
      refine Ze (.yes2 rfl rfl i3) rfl (D_loadF (g := i6) part_LoomRun_2.1 Try.isAgg3 Try.sizeOf3 rfl b46 fun yB qA => ?_)
      obtain rfl := Zj.1 qA
      refine EL_y (.int .i64 (max64 (y4).Early x3)) (Zk rfl) rfl rfl i3 rfl ?_
      refine EL_y (.bool ((decide ((((mget x4 x1).getD (⟨0, 0, 0⟩ : LoomRun))).From < (max64 (y4).Early x3))))) (P_int rfl rfl rfl) rfl rfl i3 rfl ?_
      refine EL_p (.bool ((decide ((((mget x4 x1).getD (⟨0, 0, 0⟩ : LoomRun))).From < (max64 (y4).Early x3))))) (Zl (b := ((((mget x4 x1).getD (⟨0, 0, 0⟩ : LoomRun))).Loom != x2)) rfl (pick_f i3 rfl)) rfl ?_
      refine Zb ?_
      obtain rfl := sinj h
      exact hQ _ _ ⟨i6, hfr, rfl, rfl, q1, rfl, b8, rfl, b46, rfl⟩
    ·clear hx
     obtain ⟨rA, hfr, v8, x8, y8, l8, m8, n8, o8, j6⟩ := hR
     rcases Zt h with ⟨a7, h⟩ | ⟨a7, h⟩
     ·refine E_cond_true (Eq.trans (show ev _ _ = .bool (j3) from j6) (congrArg Value.bool a7)) ?_
      refine Zf (Za (Zg (.int .i64 (1048576)) rfl rfl ?_))
      refine Zb (Zd (E_ret (thn_r ?_)))
      refine thn_r ?_
      obtain rfl := sinj h
      exact end1 rfl rfl (show _ = .int .i64 (1048576) from rfl) ⟨_, hfr, rfl⟩
     ·refine E_cond_false (Eq.trans (show ev _ _ = .bool (j3) from j6) (congrArg Value.bool a7)) ?_
      exact Zu (Zd (u9 () _ _ ⟨rA, hfr, v8, x8, y8, l8, m8, n8, o8⟩ h))
   ·rintro _ zA zB ⟨o9, hfr, a9, d9, e9, q8, r8, t8, x6⟩ h
    refine Za (EL_p (fPtr u3 2) (Zc at_76_2 t8 (OB.ptr x6)) rfl ?_)
    refine Ze .plain rfl (D_loadF (g := o9) part_LoomRun_2.1 Try.isAgg3 Try.sizeOf3 rfl x6 fun aC sA => ?_)
    obtain rfl := Zj.1 sA
    refine Zg (.int .i64 ((((mget x4 x1).getD (⟨0, 0, 0⟩ : LoomRun))).From)) rfl rfl ?_
    exact Zb (Zd (e8 ((((mget x4 x1).getD (⟨0, 0, 0⟩ : LoomRun))).From) _ _ ⟨o9, hfr, a9, d9, e9, q8, r8, rfl⟩ h))
  ·refine E_cf y6 rfl ?_
   exact Zu (Zd (e8 ((max64 (y4).Early x3)) _ _ ⟨i6, hfr, rfl, rfl, q1, rfl, b8, rfl⟩ h))
 ·rintro o0 aB cC ⟨t9, hfr, e7, i7, i5, o3, j1, z3⟩ h
  refine Zq h (fun (s : Unit) e w => ∃ (g : Gh) , Fr gI wI g w ∧ e 12 = .int .i64 (o0)) (fun X197 v7 i9 h => ?_) ?_
  ·obtain ⟨d3, hx, h⟩ := bsome h
   refine E_join (fun e w => ∃ (g : Gh) , Fr gI wI g w ∧ e 12 = .int .i64 (o0) ∧ e 60 = .bool (d3)) (fun Q' hQ => ?_) (fun uA bB hR => ?_)
   ·replace h := hx
    clear hx
    refine L_loadO (x := .tmp 43) part_LoomOrder_0.1 Try.isAgg3 Try.sizeOf3 j1 fun cB y9 j7 => ?_
    obtain rfl := Zj.1 y9
    have c7 := Zm (part_LoomLoomMill_0).1 i5
    have z9 := Zm (part_LoomMill_0).1 c7
    refine Zs (x := .tmp 46) Try.isAgg22 Try.sizeOf22 z9 fun l5 d7 m7 => ?_
    obtain ⟨z2, t5, h⟩ := bsome h
    have bA := PT_idx d7 t5
    refine Zs (x := .tmp 49) Try.isAgg3 Try.sizeOf3 bA fun dB gA n7 => ?_
    obtain rfl := Zj.1 gA
    rcases Zt h with ⟨u0, h⟩ | ⟨u0, h⟩
    ·refine E_drawL (g := t9) (n := 18) [] [0, 1, 2, 3, 4, 5, 6, 7, 8, 9, 10, 11, 12, 13, 14, 15, 16, 17] rfl mixed (by kernel_rfl) trivial ?_
     refine L_p (fPtr p7 0) rfl rfl (Zc at_82_0 o3 (OB.ptr j1)) ?_
     refine L_ld (c := .int .i64 ((y4).Width)) rfl rfl .plain (fun _ _ h => ⟨h.ch, fun b hb _ => h.below.block b hb⟩) j7 rfl ?_
     refine L_p (fPtr p1 0) rfl rfl (Zc at_96_0 i7 (PT.ptr i5)) ?_
     refine L_p (fPtr (fPtr p1 0) 0) rfl rfl (Zc at_24_0 rfl (PT.ptr c7)) ?_
     refine L_ld (c := l5) rfl rfl .plain (fun _ _ h => h.ch) m7 rfl ?_
     refine L_p (.int .i64 (x2)) rfl rfl (Zk e7) ?_
     refine L_p (ePtr l5 x2 1) rfl rfl (Zh (α := Int) Try.underlying22 Try.sizeOf3 rfl d7 rfl t5) ?_
     refine L_ld (c := .int .i64 (z2)) rfl rfl .plain (fun _ _ h => h.ch) n7 rfl ?_
     refine L_p (.bool ((decide ((y4).Width > z2)))) rfl rfl (P_int rfl rfl rfl) ?_
     refine L_p (.bool ((decide ((y4).Width > z2)))) rfl rfl (Zk rfl) ?_
     iterate 7 refine L_s rfl rfl rfl u0 rfl ?_
     refine L_p (.bool true) rfl rfl (Zl (b := (decide ((y4).Width > z2))) rfl (pick_t u0 rfl)) ?_
     refine L_nl fun iA eB hs => ?_
     have hfr := hfr.ext hs
     clear hs
     refine Zb ?_
     obtain rfl := sinj h
     exact hQ _ _ ⟨iA, hfr, z3, rfl⟩
    ·refine L_loadO (x := .tmp 54) part_LoomOrder_2.1 Try.isAgg3 Try.sizeOf3 j1 fun iB jA k9 => ?_
     obtain rfl := Zj.1 jA
     refine L_loadO (x := .tmp 57) part_LoomOrder_4.1 Try.isAgg3 Try.sizeOf3 j1 fun jB kA l9 => ?_
     obtain rfl := Zj.1 kA
     refine E_drawL (g := t9) (n := 18) [] [0, 1, 2, 3, 4, 5, 6, 7, 8, 9, 10, 11, 12, 13, 14, 15, 16, 17] rfl mixed (by kernel_rfl) trivial ?_
     refine L_p (fPtr p7 0) rfl rfl (Zc at_82_0 o3 (OB.ptr j1)) ?_
     refine L_ld (c := .int .i64 ((y4).Width)) rfl rfl .plain (fun _ _ h => ⟨h.ch, fun b hb _ => h.below.block b hb⟩) j7 rfl ?_
     refine L_p (fPtr p1 0) rfl rfl (Zc at_96_0 i7 (PT.ptr i5)) ?_
     refine L_p (fPtr (fPtr p1 0) 0) rfl rfl (Zc at_24_0 rfl (PT.ptr c7)) ?_
     refine L_ld (c := l5) rfl rfl .plain (fun _ _ h => h.ch) m7 rfl ?_
     refine L_p (.int .i64 (x2)) rfl rfl (Zk e7) ?_
     refine L_p (ePtr l5 x2 1) rfl rfl (Zh (α := Int) Try.underlying22 Try.sizeOf3 rfl d7 rfl t5) ?_
     refine L_ld (c := .int .i64 (z2)) rfl rfl .plain (fun _ _ h => h.ch) n7 rfl ?_
     refine L_p (.bool ((decide ((y4).Width > z2)))) rfl rfl (P_int rfl rfl rfl) ?_
     refine L_p (.bool ((decide ((y4).Width > z2)))) rfl rfl (Zk rfl) ?_
     refine L_y (.int .i64 (o0)) rfl rfl rfl rfl u0 (Zk z3) ?_
     refine L_y (fPtr p7 2) rfl rfl rfl rfl u0 (Zc at_82_2 o3 (OB.ptr j1)) ?_
     refine L_ld (c := .int .i64 ((y4).Woven)) rfl rfl (.yes2 rfl rfl u0) (fun _ _ h => ⟨h.ch, fun b hb _ => h.below.block b hb⟩) k9 rfl ?_
     refine L_y (.int .i64 ((w64 (o0 + (y4).Woven)))) rfl rfl rfl rfl u0 (P_int rfl rfl rfl) ?_
     refine L_y (fPtr p7 4) rfl rfl rfl rfl u0 (Zc at_82_4 o3 (OB.ptr j1)) ?_
     refine L_ld (c := .int .i64 ((y4).Late)) rfl rfl (.yes2 rfl rfl u0) (fun _ _ h => ⟨h.ch, fun b hb _ => h.below.block b hb⟩) l9 rfl ?_
     refine L_y (.bool ((decide ((w64 (o0 + (y4).Woven)) > (y4).Late)))) rfl rfl rfl rfl u0 (P_int rfl rfl rfl) ?_
     refine L_p (.bool ((decide ((w64 (o0 + (y4).Woven)) > (y4).Late)))) rfl rfl (Zl (b := (decide ((y4).Width > z2))) rfl (pick_f u0 rfl)) ?_
     refine L_nl fun lA kB hs => ?_
     have hfr := hfr.ext hs
     clear hs
     refine Zb ?_
     obtain rfl := sinj h
     exact hQ _ _ ⟨lA, hfr, z3, rfl⟩
   ·clear hx
    obtain ⟨mA, hfr, o7, z4⟩ := hR
    rcases Zt h with ⟨x5, h⟩ | ⟨x5, h⟩
    ·refine E_cond_true (Eq.trans (show ev _ _ = .bool (d3) from z4) (congrArg Value.bool x5)) ?_
     refine Zf (Za (Zg (.int .i64 (1048576)) rfl rfl ?_))
     refine Zb (Zd (E_ret (thn_r ?_)))
     obtain rfl := sinj h
     exact end1 rfl rfl (show _ = .int .i64 (1048576) from rfl) ⟨_, hfr, rfl⟩
    ·refine E_cond_false (Eq.trans (show ev _ _ = .bool (d3) from z4) (congrArg Value.bool x5)) ?_
     exact Zu (Zd (i9 () _ _ ⟨mA, hfr, o7⟩ h))
  ·rintro _ xA lB ⟨mB, hfr, u7⟩ h
   refine Zf (Za (Zo u7 rfl ?_))
   refine Zg (.int .i64 (o0)) rfl rfl ?_
   refine Zb (Zd (E_ret ?_))
   obtain rfl := sinj h
   exact end1 rfl rfl (show _ = .int .i64 (o0) from rfl) ⟨_, hfr, rfl⟩
def f106 (x0 : List Int) (x1 : Int) (x2 : Int) (x3 : Int → Int → Option Int) : Option ((List Int)) :=
 lp (σ := (List Int) × Int) (fun k1 (v6, d3) =>
  jn (σ := Unit) (fun _ =>
   Option.bind (α := (List Int)) (
    lp (σ := (List Int) × Int) (fun i8 (j1, o0) =>
     jn (σ := Unit) (fun _ =>
      Option.bind (α := (List Int)) (
       (idx j1 (w64 (o0 - (1 : Int)))).bind fun x5 =>
       (idx j1 o0).bind fun x6 =>
       (idx j1 o0).bind fun sA =>
       (idx ((List.set j1 (Int.toNat o0) x5)) (w64 (o0 - (1 : Int)))).bind fun uA =>
       some ((List.set ((List.set j1 (Int.toNat o0) x5)) (Int.toNat (w64 (o0 - (1 : Int)))) x6))
       ) fun z4 =>
      i8 (z4, (w64 (o0 - (1 : Int))))
      ) fun k8 =>
     Option.bind (α := Bool) (
      bif (decide (o0 > x1)) then
       (idx j1 o0).bind fun y6 =>
       (idx j1 (w64 (o0 - (1 : Int)))).bind fun a7 =>
       (x3 y6 a7).bind fun t5 =>
       some ((decide (t5 < (0 : Int))))
      else
       some (false)
      ) fun j3 =>
     bif j3 then
      k8 ()
     else
      some (j1)
     ) big (v6, d3)
    ) fun i5 =>
   k1 (i5, (w64 (d3 + (1 : Int))))
   ) fun k4 =>
  bif (decide (d3 < x2)) then
   k4 ()
  else
   some (v6)
  ) big (x0, (w64 (x1 + (1 : Int))))
theorem en106 : Enters Try.prog 106 := enters_of Try.func106 (by kernel_rfl) rfl
theorem wk106 {iI : Nat} {gI : Gh} {wI : World} {x0 : List Int} {x1 : Int} {x2 : Int} {x3 : Int → Int → Option Int} {up0 : Value} (mp0 : OM iI gI wI 3 x0 up0) {up3 : Value} (rp3 : FnV2 Try.prog x3 up3 gI wI) {r : (List Int)} (h : f106 x0 x1 x2 x3 = some r) : FnM Try.prog 106 #[up0, .int .i64 (x1), .int .i64 (x2), up3] iI gI wI (fun g w v => v = .tuple #[] ∧ OM iI g w 3 r up0) := by
 unfold f106 at h
 refine fnM_of_E Try.func106 rfl (Nat.le_of_ble_eq_true rfl) fun g0 hm hfr => ?_
 have kA := mp0
 replace mp0 := mp0.enter
 rw [← hm] at mp0
 replace hm : g0.m = gI.m := by rw [hm]
 obtain ⟨ff3, fa3, fc3, rfl, fen3, fcl3⟩ := rp3
 show E _ 53 none _ _ _ _ _
 refine Zf (Za (Zn (.int .i64 (x1)) rfl rfl ?_))
 refine EL_in (.int .i64 ((w64 (x1 + (1 : Int))))) rfl rfl rfl rfl ?_
 refine Zg (.int .i64 ((w64 (x1 + (1 : Int))))) rfl rfl ?_
 refine Zb (Zd (Zr ?_))
 refine E_lp h (fun (s : (List Int) × Int) e w => ∃ (g : Gh) , FrM iI gI wI g w ∧ e 0 = up0 ∧ OM 1 g w 3 (s.1 : List Int) up0 ∧ e 1 = .int .i64 (x1) ∧ e 2 = .int .i64 (x2) ∧ e 3 = (.func (.func ff3) fa3 fc3) ∧ e 8 = .int .i64 (s.2)) ⟨g0, hfr, rfl, mp0, rfl, rfl, rfl, rfl⟩ (fun X1 k1 hk1 => ?_)
 rintro ⟨v6, d3⟩ cD w2 ⟨g2, hfr, xA, l8, yA, m8, zA, n8⟩ h
 refine Zq h (fun (s : Unit) e w => ∃ (g : Gh) , FrM iI gI wI g w ∧ e 0 = up0 ∧ OM 1 g w 3 (v6 : List Int) up0 ∧ e 1 = .int .i64 (x1) ∧ e 2 = .int .i64 (x2) ∧ e 3 = (.func (.func ff3) fa3 fc3) ∧ e 8 = .int .i64 (d3)) (fun X4 k4 hk4 h => ?_) ?_
 ·refine Zf (Za (Zo n8 rfl ?_))
  refine Zo m8 rfl ?_
  refine EL_in (.bool ((decide (d3 < x2)))) rfl rfl rfl rfl ?_
  refine Zb (Zd ?_)
  rcases Zt h with ⟨hc5, h⟩ | ⟨hc5, h⟩
  ·refine E_ct hc5 rfl ?_
   exact Zu (Zd (hk4 () _ _ ⟨g2, hfr, xA, l8, yA, m8, zA, n8⟩ h))
  ·refine E_cf hc5 rfl ?_
   refine E_exit ?_
   refine thn_e ?_
   refine thn_e ?_
   refine blk_hit ?_
   obtain rfl := sinj h
   exact end0n rfl rfl ⟨_, hfr, rfl, kA.back l8⟩
 ·rintro _ eD w6 ⟨g6, hfr, aB, bB, cB, dB, eB, o8⟩ h
  obtain ⟨i5, hx, h⟩ := bsome h
  refine E_join (fun e w => ∃ (g : Gh) , FrM iI gI wI g w ∧ e 0 = up0 ∧ OM 1 g w 3 (i5 : List Int) up0 ∧ e 1 = .int .i64 (x1) ∧ e 2 = .int .i64 (x2) ∧ e 3 = (.func (.func ff3) fa3 fc3) ∧ e 8 = .int .i64 (d3)) (fun Q' hQ => ?_) (fun aC jC hR => ?_)
  ·replace h := hx
   clear hx
   refine Zr ?_
   refine Zf (Za (Zo o8 rfl ?_))
   refine Zg (.int .i64 (d3)) rfl rfl ?_
   refine Zb (Zd (Zr ?_))
   refine E_lp h (fun (s : (List Int) × Int) e w => ∃ (g : Gh) , FrM iI gI wI g w ∧ e 0 = up0 ∧ OM 1 g w 3 (s.1 : List Int) up0 ∧ e 1 = .int .i64 (x1) ∧ e 2 = .int .i64 (x2) ∧ e 3 = (.func (.func ff3) fa3 fc3) ∧ e 8 = .int .i64 (d3) ∧ e 9 = .int .i64 (s.2)) ⟨g6, hfr, aB, bB, cB, dB, eB, o8, rfl⟩ (fun X296 i8 lA => ?_)
   rintro ⟨j1, o0⟩ cC kC ⟨q8, hfr, l5, z2, q5, c7, i6, d7, o3⟩ h
   refine Zq h (fun (s : Unit) e w => ∃ (g : Gh) , FrM iI gI wI g w ∧ e 0 = up0 ∧ OM 1 g w 3 (j1 : List Int) up0 ∧ e 1 = .int .i64 (x1) ∧ e 2 = .int .i64 (x2) ∧ e 3 = (.func (.func ff3) fa3 fc3) ∧ e 8 = .int .i64 (d3) ∧ e 9 = .int .i64 (o0)) (fun X410 k8 mA h => ?_) ?_
   ·obtain ⟨j3, hx, h⟩ := bsome h
    refine E_join (fun e w => ∃ (g : Gh) , FrM iI gI wI g w ∧ e 0 = up0 ∧ OM 1 g w 3 (j1 : List Int) up0 ∧ e 1 = .int .i64 (x1) ∧ e 2 = .int .i64 (x2) ∧ e 3 = (.func (.func ff3) fa3 fc3) ∧ e 8 = .int .i64 (d3) ∧ e 9 = .int .i64 (o0) ∧ e 34 = .bool (j3)) (fun Q' hQ => ?_) (fun dC lC hR => ?_)
    ·replace h := hx
     clear hx
     rcases Zt h with ⟨u0, h⟩ | ⟨u0, h⟩
     ·obtain ⟨y6, o7, h⟩ := bsome h
      refine L_loadM (x := .tmp 25) Try.isAgg3 Try.sizeOf3 z2 o7 fun mC iB nA => ?_
      obtain rfl := Zj.1 iB
      obtain ⟨a7, u7, h⟩ := bsome h
      refine L_loadM (x := .tmp 30) Try.isAgg3 Try.sizeOf3 z2 u7 fun qC jB oA => ?_
      obtain rfl := Zj.1 jB
      obtain ⟨t5, pA, h⟩ := bsome h
      refine E_drawL (g := q8) (n := 17) [(14, (fun v g w => v = .int .i64 (t5)))] [0, 1, 2, 3, 4, 5, 6, 7, 8, 9, 10, 11, 12, 13, 14, 15, 16] rfl mixed (by kernel_rfl) (⟨fun _ => up_eq _, trivial⟩) ?_
      refine L_p (.int .i64 (o0)) rfl rfl (Zk o3) ?_
      refine L_p (.int .i64 (x1)) rfl rfl (Zk q5) ?_
      refine L_p (.bool ((decide (o0 > x1)))) rfl rfl (P_int rfl rfl rfl) ?_
      refine L_p (.bool ((decide (o0 > x1)))) rfl rfl (Zk rfl) ?_
      refine L_y ((.func (.func ff3) fa3 fc3)) rfl rfl rfl rfl u0 (Zk i6) ?_
      refine L_y up0 rfl rfl rfl rfl u0 (Zk l5) ?_
      refine L_y (.int .i64 (o0)) rfl rfl rfl rfl u0 (Zk o3) ?_
      refine L_y (ePtr up0 o0 1) rfl rfl rfl rfl u0 (P_indexAddrM (α := Int) Try.underlying22 Try.sizeOf3 rfl z2 rfl o7) ?_
      refine L_ld (c := .int .i64 (y6)) rfl rfl (.yes2 rfl rfl u0) (fun _ _ h => ⟨h.ch, fun b hb _ => h.below.block b hb⟩) nA rfl ?_
      refine L_y up0 rfl rfl rfl rfl u0 (Zk l5) ?_
      refine L_y (.int .i64 (o0)) rfl rfl rfl rfl u0 (Zk o3) ?_
      refine L_y (.int .i64 ((w64 (o0 - (1 : Int))))) rfl rfl rfl rfl u0 (P_int rfl rfl rfl) ?_
      refine L_y (ePtr up0 (w64 (o0 - (1 : Int))) 1) rfl rfl rfl rfl u0 (P_indexAddrM (α := Int) Try.underlying22 Try.sizeOf3 rfl z2 rfl u7) ?_
      refine L_ld (c := .int .i64 (a7)) rfl rfl (.yes2 rfl rfl u0) (fun _ _ h => ⟨h.ch, fun b hb _ => h.below.block b hb⟩) oA rfl ?_
      refine L_do (φ := fun v g w => v = .int .i64 (t5)) rfl rfl (.yes2 rfl rfl u0) (fun g w hd => D_callv (g := g) (vs := [.int .i64 (y6), .int .i64 (a7)]) rfl fen3 (.cons rfl (.cons rfl .nil)) (fcl3 _ _ (hfr.ext hd.1).ch _ _ _ _ _  (Zj.2 rfl) (Zj.2 rfl) pA) fun g' w' v hs hr => ⟨g', hs, Zj.1 hr⟩) (fun rC hv => ?_)
      obtain ⟨_, _, _, rfl⟩ := hv
      refine L_y (.bool ((decide (t5 < (0 : Int))))) rfl rfl rfl rfl u0 (P_int rfl rfl rfl) ?_
      refine L_p (.bool ((decide (t5 < (0 : Int))))) rfl rfl (Zl (b := (decide (o0 > x1))) rfl (pick_t u0 rfl)) ?_
      refine L_nl fun kB tC hs => ?_
      have hfr := hfr.ext hs
      have z2 := z2.ext hs
      clear hs
      refine Zb ?_
      obtain rfl := sinj h
      exact hQ _ _ ⟨kB, hfr, l5, z2, q5, c7, i6, d7, o3, rfl⟩
     ·refine E_drawL (g := q8) (n := 17) [] [0, 1, 2, 3, 4, 5, 6, 7, 8, 9, 10, 11, 12, 13, 14, 15, 16] rfl mixed (by kernel_rfl) trivial ?_
      refine L_p (.int .i64 (o0)) rfl rfl (Zk o3) ?_
      refine L_p (.int .i64 (x1)) rfl rfl (Zk q5) ?_
      refine L_p (.bool ((decide (o0 > x1)))) rfl rfl (P_int rfl rfl rfl) ?_
      refine L_p (.bool ((decide (o0 > x1)))) rfl rfl (Zk rfl) ?_
      iterate 12 refine L_s rfl rfl rfl u0 rfl ?_
      refine L_p (.bool false) rfl rfl (Zl (b := (decide (o0 > x1))) rfl (pick_f u0 rfl)) ?_
      refine L_nl fun lB uC hs => ?_
      have hfr := hfr.ext hs
      have z2 := z2.ext hs
      clear hs
      refine Zb ?_
      obtain rfl := sinj h
      exact hQ _ _ ⟨lB, hfr, l5, z2, q5, c7, i6, d7, o3, rfl⟩
    ·clear hx
     obtain ⟨r8, hfr, e7, g7, i7, j7, m7, n7, t8, j6⟩ := hR
     rcases Zt h with ⟨b7, h⟩ | ⟨b7, h⟩
     ·refine E_cond_true (Eq.trans (show ev _ _ = .bool (j3) from j6) (congrArg Value.bool b7)) ?_
      exact Zu (Zd (mA () _ _ ⟨r8, hfr, e7, g7, i7, j7, m7, n7, t8⟩ h))
     ·refine E_cond_false (Eq.trans (show ev _ _ = .bool (j3) from j6) (congrArg Value.bool b7)) ?_
      refine E_exit ?_
      refine thn_e ?_
      refine thn_e ?_
      refine blk_hit ?_
      refine blk_n ?_
      obtain rfl := sinj h
      exact hQ _ _ ⟨r8, hfr, e7, g7, i7, j7, m7, n7⟩
   ·rintro _ eC mB ⟨v8, hfr, u3, i3, x8, y8, a9, d9, z3⟩ h
    obtain ⟨z4, hx, h⟩ := bsome h
    refine E_join (fun e w => ∃ (g : Gh) , FrM iI gI wI g w ∧ e 0 = up0 ∧ OM 1 g w 3 (z4 : List Int) up0 ∧ e 1 = .int .i64 (x1) ∧ e 2 = .int .i64 (x2) ∧ e 3 = (.func (.func ff3) fa3 fc3) ∧ e 8 = .int .i64 (d3) ∧ e 9 = .int .i64 (o0)) (fun Q' hQ => ?_) (fun iC vC hR => ?_)
    ·replace h := hx
     clear hx
     refine Zr ?_
     obtain ⟨x5, v7, h⟩ := bsome h
     refine L_loadM (x := .tmp 45) Try.isAgg3 Try.sizeOf3 i3 v7 fun xC nB qA => ?_
     obtain rfl := Zj.1 nB
     obtain ⟨x6, c8, h⟩ := bsome h
     refine L_loadM (x := .tmp 49) Try.isAgg3 Try.sizeOf3 i3 c8 fun yC oB rA => ?_
     obtain rfl := Zj.1 oB
     obtain ⟨sA, e8, h⟩ := bsome h
     refine E_drawTL (g := v8) (n := 15) [2, 3, 4] [] [0, 1, 2, 3, 4, 5, 6, 7, 8, 9, 10, 11, 12, 13, 14] rfl mixed (by kernel_rfl) trivial rfl ?_
     refine L_p up0 rfl rfl (Zk u3) ?_
     refine L_p (.int .i64 (o0)) rfl rfl (Zk z3) ?_
     refine L_purL (c := up0) rfl rfl .plain (Zk u3) ?_
     refine L_purL (c := .int .i64 (o0)) rfl rfl .plain (Zk z3) ?_
     refine L_purL (c := .int .i64 ((w64 (o0 - (1 : Int))))) rfl rfl .plain (P_int rfl rfl rfl) ?_
     refine L_p up0 rfl rfl (Zk u3) ?_
     refine L_p (.int .i64 (o0)) rfl rfl (Zk z3) ?_
     refine L_p (.int .i64 ((w64 (o0 - (1 : Int))))) rfl rfl (P_int rfl rfl rfl) ?_
     refine L_p (ePtr up0 (w64 (o0 - (1 : Int))) 1) rfl rfl (P_indexAddrM (α := Int) Try.underlying22 Try.sizeOf3 rfl i3 rfl v7) ?_
     refine L_ld (c := .int .i64 (x5)) rfl rfl .plain (fun _ _ h => ⟨h.ch, fun b hb _ => h.below.block b hb⟩) qA rfl ?_
     refine L_p up0 rfl rfl (Zk u3) ?_
     refine L_p (.int .i64 (o0)) rfl rfl (Zk z3) ?_
     refine L_p (ePtr up0 o0 1) rfl rfl (P_indexAddrM (α := Int) Try.underlying22 Try.sizeOf3 rfl i3 rfl c8) ?_
     refine L_ld (c := .int .i64 (x6)) rfl rfl .plain (fun _ _ h => ⟨h.ch, fun b hb _ => h.below.block b hb⟩) rA rfl ?_
     refine L_p (ePtr up0 o0 1) rfl rfl (P_indexAddrM (α := Int) Try.underlying22 Try.sizeOf3 rfl i3 rfl e8) ?_
     refine L_nl fun e9 tB hs => ?_
     have hlt : Lt v8.m mB e9 tB := hs.ch
     have hfr := hfr.ext hs
     have i3 := i3.ext hs
     clear hs
     refine TL_do hlt.w .plain rfl (D_storeM (g := e9) (α := Int) (a' := x5) Try.sizeOf3 rfl i3 e8 rfl (Zj.2 rfl) fun vB aD hs b581 => ?_)
     have hfr := hfr.stp hs
     have hlt := hlt.stp hs
     obtain ⟨uA, g8, h⟩ := bsome h
     refine TL_pur hlt.w (v := ePtr up0 (w64 (o0 - (1 : Int))) 1) (P_indexAddrM (α := Int) Try.underlying22 Try.sizeOf3 rfl b581 rfl g8) .plain rfl ?_
     refine TL_do hlt.w .plain rfl (D_storeM (g := vB) (α := Int) (a' := x6) Try.sizeOf3 rfl b581 g8 rfl (Zj.2 rfl) fun xB bD hs b583 => ?_)
     have hfr := hfr.stp hs
     have hlt := hlt.stp hs
     refine TL_nil hlt.w ?_
     clear hlt
     refine blk_n ?_
     obtain rfl := sinj h
     exact hQ _ _ ⟨xB, hfr, u3, b583, x8, y8, a9, d9, z3⟩
    ·clear hx
     obtain ⟨yB, hfr, i9, k9, l9, n9, o9, t9, u9⟩ := hR
     refine Za (Zo u9 rfl ?_)
     refine EL_in (.int .i64 ((w64 (o0 - (1 : Int))))) rfl rfl rfl rfl ?_
     refine Zg (.int .i64 ((w64 (o0 - (1 : Int))))) rfl rfl ?_
     exact Zb (Zd (lA (z4, (w64 (o0 - (1 : Int)))) _ _ ⟨yB, hfr, i9, k9, l9, n9, o9, t9, rfl⟩ h))
  ·clear hx
   obtain ⟨zB, hfr, y9, z9, bA, gA, iA, jA⟩ := hR
   refine Za (Zo jA rfl ?_)
   refine EL_in (.int .i64 ((w64 (d3 + (1 : Int))))) rfl rfl rfl rfl ?_
   refine Zg (.int .i64 ((w64 (d3 + (1 : Int))))) rfl rfl ?_
   exact Zb (Zd (hk1 (i5, (w64 (d3 + (1 : Int)))) _ _ ⟨zB, hfr, y9, z9, bA, gA, iA, rfl⟩ h))
def f18 (x0 : LoomMill) (x1 : LoomMill) : Option (Bool) :=
 Option.bind (α := Bool) (
  bif ((x0).Change == (x1).Change) then
   (f28 ((x0).Widths) ((x1).Widths)).bind fun j1 =>
   some (j1)
  else
   some (false)
  ) fun u0 =>
 some (u0)
def f20 (x0 : LoomMill) (x1 : List LoomOrder) : Option (Int) :=
 jn (σ := Unit) (fun _ =>
  jn (σ := Unit) (fun _ =>
   jn (σ := Unit) (fun _ =>
    jn (σ := Unit) (fun _ =>
     some ((0 : Int))
     ) fun l9 =>
    lp (σ := Int) (fun n9 u0 =>
     jn (σ := Unit) (fun _ =>
      jn (σ := Unit) (fun _ =>
       n9 ((w64 (u0 + (1 : Int))))
       ) fun o9 =>
      (idx x1 u0).bind fun u3 =>
      Option.bind (α := Bool) (
       (f36 ((u3).Width) ((1 : Int)) ((100 : Int))).bind fun x6 =>
       bif (!x6) then
        some (true)
       else
        (f36 ((u3).Chain) ((0 : Int)) ((100 : Int))).bind fun x5 =>
        bif (!x5) then
         some (true)
        else
         (f36 ((u3).Woven) ((1 : Int)) ((100 : Int))).bind fun i6 =>
         bif (!i6) then
          some (true)
         else
          (f36 ((u3).Early) ((0 : Int)) ((300 : Int))).bind fun j6 =>
          bif (!j6) then
           some (true)
          else
           (f36 ((u3).Late) ((0 : Int)) ((300 : Int))).bind fun g7 =>
           some ((!g7))
       ) fun z3 =>
      bif z3 then
       some ((2 : Int))
      else
       o9 ()
      ) fun t9 =>
     bif (decide (u0 < ((x1).length : Int))) then
      t9 ()
     else
      l9 ()
     ) big ((0 : Int))
    ) fun k94 =>
   Option.bind (α := Bool) (
    bif ((((x0).Widths).length : Int) == (0 : Int)) then
     some (true)
    else
     (f36 ((x0).Change) ((0 : Int)) ((20 : Int))).bind fun i7 =>
     some ((!i7))
    ) fun z4 =>
   bif z4 then
    some ((2 : Int))
   else
    k94 ()
   ) fun k48 =>
  lp (σ := Int) (fun eC j1 =>
   jn (σ := Unit) (fun _ =>
    jn (σ := Unit) (fun _ =>
     eC ((w64 (j1 + (1 : Int))))
     ) fun iC =>
    (idx ((x0).Widths) j1).bind fun y70 =>
    (f36 y70 ((1 : Int)) ((100 : Int))).bind fun y74 =>
    bif (!y74) then
     some ((2 : Int))
    else
     iC ()
    ) fun k54 =>
   bif (decide (j1 < (((x0).Widths).length : Int))) then
    k54 ()
   else
    k48 ()
   ) big ((0 : Int))
  ) fun jC =>
 Option.bind (α := Bool) (
  bif (decide ((((x0).Widths).length : Int) > (3 : Int))) then
   some (true)
  else
   some ((decide (((x1).length : Int) > (7 : Int))))
  ) fun t5 =>
 bif t5 then
  some ((5 : Int))
 else
  jC ()
def f37 (x0 : List LoomOrder) (x1 : List LoomRun) (x2 : LoomStop) : Option ((List Int)) :=
 Option.bind (α := (List Int)) (
  lp (σ := (List Int) × Int) (fun l9 (i3, o0) =>
   jn (σ := Unit) (fun _ =>
    Option.bind (α := (List Int)) (
     (idx x1 o0).bind fun n9 =>
     (f75 x0 n9 x2).bind fun l5 =>
     bif l5 then
      (idx x1 o0).bind fun q5 =>
      (apnd 8 i3 (([(q5).Order] : List Int))).bind fun j7 =>
      some (j7)
     else
      some (i3)
     ) fun d3 =>
    l9 (d3, (w64 (o0 + (1 : Int))))
    ) fun o9 =>
   bif (decide (o0 < ((x1).length : Int))) then
    o9 ()
   else
    some (i3)
   ) big (([] : List Int), (0 : Int))
  ) fun u3 =>
 some (u3)
end Go.Proofs.Ytnfjhdagbknlbaa
