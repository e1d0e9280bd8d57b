import Derived.Test.YtpiaipiehjcflaaCode5
set_option maxRecDepth 8000
set_option maxHeartbeats 4000000
namespace Go.Proofs.Ytpiaipiehjcflaa
open Go.RowKit
/-- griffe/griffelaw05.FaultAlls -/
def f11 (x0 : FaultLoom) : Option (Bool) :=
 jn (σ := Unit) (fun (_ : Unit) =>
  (f16 x0).bind fun u3 =>
  (f47 u3).bind fun y23 =>
  jn (σ := Unit) (fun (_ : Unit) =>
   jn (σ := Unit) (fun (_ : Unit) =>
    Option.bind (α := Bool) (
     bif (y23.2 == (0 : Int)) then
      (f34 x0).bind fun s4 =>
      (f22 (y23.1) s4).bind fun j2 =>
      bif j2 then
       (f15).bind fun i3 =>
       some (i3)
      else
       some (false)
     else
      some (false)
     ) fun i1 =>
    some (i1)
    ) fun u4 =>
   (f33 x0).bind fun y0 =>
   bif (y0 != (0 : Int)) then
    Option.bind (α := Bool) (
     bif (y23.2 == y0) then
      bif (((y23.1).length : Int) == (0 : Int)) then
       (f15).bind fun j3 =>
       some (j3)
      else
       some (false)
     else
      some (false)
     ) fun j1 =>
    some (j1)
   else
    u4 ()
   ) fun x4 =>
  (f21 u3 x0).bind fun z3 =>
  bif (!z3) then
   some (false)
  else
   x4 ()
  ) fun k8 =>
 (f30 x0).bind fun y11 =>
 bif y11 then
  (f15).bind fun m3 =>
  some (m3)
 else
  k8 ()
theorem wk11 {gI : Gh} {wI : World} {x0 : FaultLoom} {up0 : Value} (rp0 : RV gI.m wI x0 up0) {r : Bool} (h : f11 x0 = some r) : Fn Try.prog 11 #[up0] gI wI (fun _ _ v => v = .bool (r)) := by
 unfold f11 at h
 refine fn_of_E Try.func11 rfl (Nat.le_of_ble_eq_true rfl) fun g0 hm hfr => ?_
 have rp0 : RV g0.m wI x0 up0 := hm ▸ rp0
 show E _ 47 none _ _ _ _ _
 refine E_seq (E_region (EL_do .plain rfl (D_box (g := g0) rfl rp0 fun g1 w1 p1 hs q1 => ?_)))
 have hfr := hfr.ext hs
 refine EL_at (.bool false) rfl rfl ?_
 refine EL_nil (thn_n (E_joinC h (fun (s : Unit) e w => ∃ (g : Gh) , Fr gI wI g w ∧ e 1 = p1 ∧ PT g.m w (x0 : FaultLoom) p1) (fun X8 k8 c6 h => ?_) ?_))
 ·refine E_seq (E_region (EL_do .plain rfl (D_load (g := g1) Try.isAgg28 Try.sizeOf28 rfl q1 fun v9 r9 => ?_)))
  obtain ⟨y11, m5, h⟩ := bsome h
  refine EL_do .plain rfl (D_call (g := g1) (vs := [v9]) en30 (.cons rfl .nil) (wk30 r9 m5) fun z4 e7 x7 hs hr => ?_)
  have hfr := hfr.ext hs
  have q1 := q1.ext hs
  subst hr
  refine EL_nil (thn_n ?_)
  rcases csome h with ⟨s2, h⟩ | ⟨s2, h⟩
  ·refine E_ct s2 rfl ?_
   refine E_seq (E_region ?_)
   obtain ⟨m3, n5, h⟩ := bsome h
   refine EL_do .plain rfl (D_call (g := z4) (vs := []) en15 .nil (wk15  n5) fun y7 g7 z7 hs hr => ?_)
   have hfr := hfr.ext hs
   subst hr
   refine EL_at (.bool (m3)) rfl rfl ?_
   refine EL_nil (thn_n (E_ret (thn_r ?_)))
   obtain rfl := sinj h
   exact end1 rfl rfl (show _ = .bool (m3) from rfl) ⟨_, hfr, rfl⟩
  ·refine E_cf s2 rfl ?_
   exact E_skip (thn_n (c6 () _ _ ⟨z4, hfr, rfl, q1⟩ h))
 ·rintro _ i7 a8 ⟨c5, hfr, m2, j0⟩ h
  refine E_seq (E_region (EL_do .plain rfl (D_load (g := c5) Try.isAgg28 Try.sizeOf28 m2 j0 fun d6 e6 => ?_)))
  obtain ⟨u3, o5, h⟩ := bsome h
  refine EL_do .plain rfl (D_call (g := c5) (vs := [d6]) en16 (.cons rfl .nil) (wk16 e6 o5) fun i6 j7 j6 hs hr => ?_)
  have hfr := hfr.ext hs
  have j0 := j0.ext hs
  have c4 := hr
  refine EL_do .plain rfl (D_allocOc (g := i6) 2003 (⟨⟨0, []⟩, ⟨0, []⟩⟩ : FaultLoom) Try.zeroValue28 (fun m w => ⟨_, (rep_two (rep_two rep_int rep_nil) (rep_two rep_int rep_nil)), rfl⟩) fun d4 d5 e5 hs b19 cb => ?_)
  have hfr := hfr.stp hs
  have j0 := j0.stp hs
  have c4 := c4.stp hs
  have b7 : OSF 2003 60301 1 d4 d5 3 28 ([] : List Int) e5 := cb.osf (by rfl)
  have c7 : OSF 2003 60303 3 d4 d5 3 28 ([] : List Int) e5 := cb.osf (by rfl)
  clear cb
  refine EL_do .plain rfl (D_storeOc (g := d4) (v := j6) Try.sizeOf28 rfl b19 rfl c4 fun i5 b8 hs b20 cb => ?_)
  clear cb
  have hfr := hfr.stp hs
  have j0 := j0.stp hs
  refine EL_nil (thn_n (E_seq (E_region (EL_do .plain rfl (D_loadO (g := i5) Try.isAgg28 Try.sizeOf28 rfl b20 fun k6 l6 => ?_)))))
  obtain ⟨y23, p5, h⟩ := bsome h
  refine EL_do .plain rfl (D_call (g := i5) (vs := [k6]) en47 (.cons rfl .nil) (wk47 l6 p5) fun e4 l7 c8 hs hr => ?_)
  have hfr := hfr.ext hs
  have j0 := j0.ext hs
  have b20 := b20.ext hs
  obtain ⟨n0, d7, rfl, p2, rfl⟩ := hr
  refine EL_mw (.tuple #[n0, .int .i64 (y23.2)]) rfl rfl ?_
  refine EL_pur (v := n0) (P_extract rfl rfl) .plain rfl ?_
  refine EL_pur (v := .int .i64 (y23.2)) (P_extract rfl rfl) .plain rfl ?_
  refine EL_at n0 rfl rfl ?_
  refine EL_at (.int .i64 (y23.2)) rfl rfl ?_
  refine EL_nil (thn_n (E_joinC h (fun (s : Unit) e w => ∃ (g : Gh) , Fr gI wI g w ∧ e 1 = p1 ∧ PT g.m w (x0 : FaultLoom) p1 ∧ e 4 = n0 ∧ RV g.m w (y23.1 : List FaultDamage) n0 ∧ e 5 = .int .i64 (y23.2)) (fun X29 x4 q5 h => ?_) ?_))
  ·refine E_seq (E_region (EL_do .plain rfl (D_loadO (g := e4) Try.isAgg28 Try.sizeOf28 rfl b20 fun m6 n6 => ?_)))
   refine EL_do .plain rfl (D_load (g := e4) Try.isAgg28 Try.sizeOf28 m2 j0 fun o6 p6 => ?_)
   obtain ⟨z3, t5, h⟩ := bsome h
   refine EL_do .plain rfl (D_call (g := e4) (vs := [m6, o6]) en21 (.cons rfl (.cons rfl .nil)) (wk21 n6 p6 t5) fun q6 m7 d8 hs hr => ?_)
   have hfr := hfr.ext hs
   have j0 := j0.ext hs
   have p2 := p2.ext hs
   subst hr
   refine EL_pur (v := .bool (!z3)) (P_not rfl) .plain rfl ?_
   refine EL_nil (thn_n ?_)
   rcases csome h with ⟨z2, h⟩ | ⟨z2, h⟩
   ·refine E_ct z2 rfl ?_
    refine E_seq (E_region (EL_at (.bool false) rfl rfl ?_))
    refine EL_nil (thn_n (E_ret (thn_r ?_)))
    obtain rfl := sinj h
    exact end1 rfl rfl (show _ = .bool false from rfl) ⟨_, hfr, rfl⟩
   ·refine E_cf z2 rfl ?_
    exact E_skip (thn_n (q5 () _ _ ⟨q6, hfr, m2, j0, rfl, p2, rfl⟩ h))
  ·rintro _ n7 e8 ⟨j5, hfr, o3, m1, p3, z1, q3⟩ h
   refine E_joinC h (fun (s : Unit) e w => ∃ (g : Gh) , Fr gI wI g w ∧ e 1 = p1 ∧ PT g.m w (x0 : FaultLoom) p1 ∧ e 4 = n0 ∧ RV g.m w (y23.1 : List FaultDamage) n0 ∧ e 5 = .int .i64 (y23.2)) (fun X49 u4 u5 h => ?_) ?_
   ·refine E_seq (E_region (EL_do .plain rfl (D_load (g := j5) Try.isAgg28 Try.sizeOf28 o3 m1 fun r6 s6 => ?_)))
    obtain ⟨y0, x5, h⟩ := bsome h
    refine EL_do .plain rfl (D_call (g := j5) (vs := [r6]) en33 (.cons rfl .nil) (wk33 s6 x5) fun s3 o7 g8 hs hr => ?_)
    have hfr := hfr.ext hs
    have m1 := m1.ext hs
    have z1 := z1.ext hs
    subst hr
    refine EL_at (.int .i64 (y0)) rfl rfl ?_
    refine EL_nil (thn_n (E_seq (E_region (EL_mw (.int .i64 (y0)) rfl rfl ?_))))
    refine EL_in (.bool ((y0 != (0 : Int)))) rfl rfl rfl rfl ?_
    refine EL_nil (thn_n ?_)
    rcases csome h with ⟨d3, h⟩ | ⟨d3, h⟩
    ·refine E_ct d3 rfl ?_
     obtain ⟨j1, hx, h⟩ := bsome h
     refine E_join (fun e w => ∃ (g : Gh) , Fr gI wI g w ∧ e 2 = .bool (j1)) (fun Q' hQ => ?_) (fun p7 i8 hR => ?_)
     ·replace h := hx
      clear hx
      refine E_region (EL_mv q3 rfl ?_)
      refine EL_mw (.int .i64 (y0)) rfl rfl ?_
      refine EL_in (.bool ((y23.2 == y0))) rfl rfl rfl rfl ?_
      refine EL_mw (.bool ((y23.2 == y0))) rfl rfl ?_
      rcases csome h with ⟨u0, h⟩ | ⟨u0, h⟩
      ·refine EL_pur (v := n0) (P_move p3) (.yes2 rfl rfl u0) rfl ?_
       refine EL_pur (v := .int .i64 ((y23.1).length : Int)) (P_len Try.underlying29 rfl z1) (.yes2 rfl rfl u0) rfl ?_
       refine EL_pur (v := .bool ((((y23.1).length : Int) == (0 : Int)))) (P_int rfl rfl rfl) (.yes2 rfl rfl u0) rfl ?_
       refine EL_pur (v := .bool ((((y23.1).length : Int) == (0 : Int)))) (P_pick (b := (y23.2 == y0)) rfl (pick_t u0 rfl)) .plain rfl ?_
       refine EL_mw (.bool ((((y23.1).length : Int) == (0 : Int)))) rfl rfl ?_
       rcases csome h with ⟨d2, h⟩ | ⟨d2, h⟩
       ·obtain ⟨j3, y5, h⟩ := bsome h
        refine EL_do (.yes2 rfl rfl d2) rfl (D_call (g := s3) (vs := []) en15 .nil (wk15  y5) fun t6 q7 j8 hs hr => ?_)
        have hfr := hfr.ext hs
        subst hr
        refine EL_pur (v := .bool (j3)) (P_pick (b := (((y23.1).length : Int) == (0 : Int))) rfl (pick_t d2 rfl)) .plain rfl ?_
        refine EL_at (.bool (j3)) rfl rfl ?_
        refine EL_nil ?_
        obtain rfl := sinj h
        exact hQ _ _ ⟨t6, hfr, rfl⟩
       ·refine EL_skip (.no2 rfl rfl d2 rfl) rfl ?_
        refine EL_pur (v := .bool false) (P_pick (b := (((y23.1).length : Int) == (0 : Int))) rfl (pick_f d2 rfl)) .plain rfl ?_
        refine EL_at (.bool false) rfl rfl ?_
        refine EL_nil ?_
        obtain rfl := sinj h
        exact hQ _ _ ⟨s3, hfr, rfl⟩
      ·refine EL_skip (.no2 rfl rfl u0 rfl) rfl ?_
       refine EL_skip (.no2 rfl rfl u0 rfl) rfl ?_
       refine EL_skip (.no2 rfl rfl u0 rfl) rfl ?_
       refine EL_pur (v := .bool false) (P_pick (b := (y23.2 == y0)) rfl (pick_f u0 rfl)) .plain rfl ?_
       refine EL_dead 3 rfl ?_
       refine EL_at (.bool false) rfl rfl ?_
       refine EL_nil ?_
       obtain rfl := sinj h
       exact hQ _ _ ⟨s3, hfr, rfl⟩
     ·clear hx
      obtain ⟨l8, hfr, j4⟩ := hR
      refine E_ret (thn_r ?_)
      obtain rfl := sinj h
      exact end1 rfl rfl (show _ = .bool (j1) from j4) ⟨_, hfr, rfl⟩
    ·refine E_cf d3 rfl ?_
     exact E_skip (thn_n (u5 () _ _ ⟨s3, hfr, o3, m1, p3, z1, q3⟩ h))
   ·rintro _ r7 m8 ⟨i4, hfr, m4, n4, o4, q2, p4⟩ h
    obtain ⟨i1, hx, h⟩ := bsome h
    refine E_join (fun e w => ∃ (g : Gh) , Fr gI wI g w ∧ e 2 = .bool (i1)) (fun Q' hQ => ?_) (fun s7 n8 hR => ?_)
    ·replace h := hx
     clear hx
     refine E_region (EL_mv p4 rfl ?_)
     refine EL_in (.bool ((y23.2 == (0 : Int)))) rfl rfl rfl rfl ?_
     refine EL_mw (.bool ((y23.2 == (0 : Int)))) rfl rfl ?_
     rcases csome h with ⟨o0, h⟩ | ⟨o0, h⟩
     ·refine EL_pur (v := n0) (P_move o4) (.yes2 rfl rfl o0) rfl ?_
      refine EL_do (.yes2 rfl rfl o0) rfl (D_load (g := i4) Try.isAgg28 Try.sizeOf28 m4 n4 fun u6 v6 => ?_)
      obtain ⟨s4, z5, h⟩ := bsome h
      refine EL_do (.yes2 rfl rfl o0) rfl (D_call (g := i4) (vs := [u6]) en34 (.cons rfl .nil) (wk34 v6 z5) fun x6 t7 y6 hs hr => ?_)
      have hfr := hfr.ext hs
      have q2 := q2.ext hs
      have z6 := hr
      obtain ⟨j2, a6, h⟩ := bsome h
      refine EL_do (.yes2 rfl rfl o0) rfl (D_call (g := x6) (vs := [n0, y6]) en22 (.cons rfl (.cons rfl .nil)) (wk22 q2 z6 a6) fun l5 u7 o8 hs hr => ?_)
      have hfr := hfr.ext hs
      subst hr
      refine EL_pur (v := .bool (j2)) (P_pick (b := (y23.2 == (0 : Int))) rfl (pick_t o0 rfl)) .plain rfl ?_
      refine EL_mw (.bool (j2)) rfl rfl ?_
      rcases csome h with ⟨i2, h⟩ | ⟨i2, h⟩
      ·obtain ⟨i3, b6, h⟩ := bsome h
       refine EL_do (.yes2 rfl rfl i2) rfl (D_call (g := l5) (vs := []) en15 .nil (wk15  b6) fun a7 v7 p8 hs hr => ?_)
       have hfr := hfr.ext hs
       subst hr
       refine EL_pur (v := .bool (i3)) (P_pick (b := j2) rfl (pick_t i2 rfl)) .plain rfl ?_
       refine EL_at (.bool (i3)) rfl rfl ?_
       refine EL_nil ?_
       obtain rfl := sinj h
       exact hQ _ _ ⟨a7, hfr, rfl⟩
      ·refine EL_skip (.no2 rfl rfl i2 rfl) rfl ?_
       refine EL_pur (v := .bool false) (P_pick (b := j2) rfl (pick_f i2 rfl)) .plain rfl ?_
       refine EL_at (.bool false) rfl rfl ?_
       refine EL_nil ?_
       obtain rfl := sinj h
       exact hQ _ _ ⟨l5, hfr, rfl⟩
     ·refine EL_skip (.no2 rfl rfl o0 rfl) rfl ?_
      refine EL_skip (.no2 rfl rfl o0 rfl) rfl ?_
      refine EL_skip (.no2 rfl rfl o0 rfl) rfl ?_
      refine EL_skip (.no2 rfl rfl o0 rfl) rfl ?_
      refine EL_pur (v := .bool false) (P_pick (b := (y23.2 == (0 : Int))) rfl (pick_f o0 rfl)) .plain rfl ?_
      refine EL_dead 3 rfl ?_
      refine EL_at (.bool false) rfl rfl ?_
      refine EL_nil ?_
      obtain rfl := sinj h
      exact hQ _ _ ⟨i4, hfr, rfl⟩
    ·clear hx
     obtain ⟨q8, hfr, q4⟩ := hR
     refine E_ret ?_
     obtain rfl := sinj h
     exact end1 rfl rfl (show _ = .bool (i1) from q4) ⟨_, hfr, rfl⟩
end Go.Proofs.Ytpiaipiehjcflaa
