import Derived.Test.YtpiaipiehjcflaaCode2
set_option maxRecDepth 8000
set_option maxHeartbeats 4000000
namespace Go.Proofs.Ytpiaipiehjcflaa
open Go.RowKit
/-- griffe/fault.Check -/
def f18 (x0 : FaultLoom) (x1 : List FaultDamage) : Option (Int) :=
 jn (σ := Unit) (fun (_ : Unit) =>
  jn (σ := Unit) (fun (_ : Unit) =>
   some ((0 : Int))
   ) fun z1 =>
  bif (decide (((x1).length : Int) > (100 : Int))) then
   some ((5 : Int))
  else
   (f53 x1 ((fun a0 => f51 a0 x0))).bind fun o0 =>
   bif o0 then
    some ((2 : Int))
   else
    z1 ()
  ) fun k6 =>
 (f50 x0).bind fun y9 =>
 bif (y9 != (0 : Int)) then
  some (y9)
 else
  k6 ()
theorem en18 : Enters Try.prog 18 := enters_of Try.func18 (by kernel_rfl) rfl
theorem wk18 {gI : Gh} {wI : World} {x0 : FaultLoom} {x1 : List FaultDamage} {up0 : Value} (rp0 : RV gI.m wI x0 up0) {up1 : Value} (rp1 : RV gI.m wI x1 up1) {r : Int} (h : f18 x0 x1 = some r) : Fn Try.prog 18 #[up0, up1] gI wI (fun _ _ v => v = .int .i64 (r)) := by
 unfold f18 at h
 refine fn_of_E Try.func18 rfl (Nat.le_of_ble_eq_true rfl) fun g0 hm hfr => ?_
 have rp0 : RV g0.m wI x0 up0 := hm ▸ rp0
 have rp1 : RV g0.m wI x1 up1 := hm ▸ rp1
 show E _ 21 none _ _ _ _ _
 refine E_seq (E_region (EL_do .plain rfl (D_box (g := g0) rfl rp0 fun g1 w1 p1 hs q1 => ?_)))
 have hfr := hfr.ext hs
 have rp0 := rp0.ext hs
 have rp1 := rp1.ext hs
 refine EL_pur (v := .int .i64 (0)) (P_assign rfl) .plain rfl ?_
 refine EL_nil (thn_n (E_joinC h (fun (s : Unit) e w => ∃ (g : Gh) , Fr gI wI g w ∧ e 1 = up1 ∧ RV g.m w (x1 : List FaultDamage) up1 ∧ e 2 = p1 ∧ PT g.m w (x0 : FaultLoom) p1) (fun X6 k6 j2 h => ?_) ?_))
 ·refine E_seq (E_region (EL_do .plain rfl (D_load (g := g1) Try.isAgg28 Try.sizeOf28 rfl q1 fun v7 r7 => ?_)))
  obtain ⟨y9, m2, h⟩ := bsome h
  refine EL_do .plain rfl (D_call (g := g1) (vs := [v7]) en50 (.cons rfl .nil) (wk50 r7 m2) fun g8 w8_ v8 hs hr => ?_)
  have hfr := hfr.ext hs
  have rp0 := rp0.ext hs
  have rp1 := rp1.ext hs
  have q1 := q1.ext hs
  have r7 := r7.ext hs
  subst hr
  refine EL_pur (v := .int .i64 (y9)) (P_assign rfl) .plain rfl ?_
  refine EL_nil (thn_n (E_seq (E_region (EL_pur (v := .int .i64 (y9)) (P_move rfl) .plain rfl ?_))))
  refine EL_pur (v := .bool ((y9 != (0 : Int)))) (P_int rfl rfl rfl) .plain rfl ?_
  refine EL_nil (thn_n ?_)
  rcases csome h with ⟨u0, h⟩ | ⟨u0, h⟩
  ·refine E_cond_true (Eq.trans (show ev _ _ = .bool ((y9 != (0 : Int))) from rfl) (congrArg Value.bool u0)) ?_
   refine E_seq (E_region (EL_pur (v := .int .i64 (y9)) (P_move rfl) .plain rfl ?_))
   refine EL_pur (v := .int .i64 (y9)) (P_assign rfl) .plain rfl ?_
   refine EL_nil (thn_n (E_ret (thn_r ?_)))
   obtain rfl := Option.some.inj h
   exact end1 rfl rfl (show _ = .int .i64 (y9) from rfl) ⟨_, hfr, rfl⟩
  ·refine E_cond_false (Eq.trans (show ev _ _ = .bool ((y9 != (0 : Int))) from rfl) (congrArg Value.bool u0)) ?_
   exact E_skip (thn_n (j2 () _ _ ⟨g8, hfr, rfl, rp1, rfl, q1⟩ h))
 ·rintro _ s2 e3 ⟨p2, hfr, j1, j0, m1, n0⟩ h
  refine E_seq (E_region (EL_pur (v := (.func (.func 51) #[] #[p1])) (P_makeFunc (capf_0_1 (show ev _ _ = p1 from m1))) .plain rfl ?_))
  refine EL_pur (v := (.func (.func 51) #[] #[p1])) (P_assign rfl) .plain rfl ?_
  refine EL_nil (thn_n (E_joinC h (fun (s : Unit) e w => ∃ (g : Gh) , Fr gI wI g w) (fun X16 z1 d2 h => ?_) ?_))
  ·refine E_block ?_
   refine E_seq (E_region (EL_pur (v := up1) (P_move j1) .plain rfl ?_))
   refine EL_pur (v := .int .i64 ((x1).length : Int)) (P_len Try.underlying29 rfl j0) .plain rfl ?_
   refine EL_pur (v := .bool ((decide (((x1).length : Int) > (100 : Int))))) (P_int rfl rfl rfl) .plain rfl ?_
   refine EL_pur (v := .bool ((decide (((x1).length : Int) > (100 : Int))))) (P_assign rfl) .plain rfl ?_
   refine EL_nil (thn_n ?_)
   rcases csome h with ⟨y0, h⟩ | ⟨y0, h⟩
   ·refine E_cond_true (Eq.trans (show ev _ _ = .bool ((decide (((x1).length : Int) > (100 : Int)))) from rfl) (congrArg Value.bool y0)) ?_
    refine E_seq (E_region (EL_pur (v := .int .i64 (5)) (P_assign rfl) .plain rfl ?_))
    refine EL_nil (thn_n (E_ret (blk_r ?_)))
    refine thn_r ?_
    obtain rfl := Option.some.inj h
    exact end1 rfl rfl (show _ = .int .i64 (5) from rfl) ⟨_, hfr, rfl⟩
   ·refine E_cond_false (Eq.trans (show ev _ _ = .bool ((decide (((x1).length : Int) > (100 : Int)))) from rfl) (congrArg Value.bool y0)) ?_
    refine E_seq (E_region (EL_pur (v := up1) (P_move j1) .plain rfl ?_))
    refine EL_pur (v := (.func (.func 51) #[] #[p1])) (P_move rfl) .plain rfl ?_
    obtain ⟨o0, i2, h⟩ := bsome h
    refine EL_do .plain rfl (D_call (g := p2) (vs := [up1, (.func (.func 51) #[] #[p1])]) en53 (.cons rfl (.cons rfl .nil)) (wk53 j0 ⟨51, #[], #[p1], rfl, en51, fun g' w' hch a0 b0 r hu0 hr => by exact Fn.mono (wk51 hu0 (n0.ch hch) hr) fun _ _ _ h => RV_bool.2 h⟩ i2) fun q2 z2 i3 hs hr => ?_)
    have hfr := hfr.ext hs
    have j0 := j0.ext hs
    have n0 := n0.ext hs
    subst hr
    refine EL_pur (v := .bool (o0)) (P_assign rfl) .plain rfl ?_
    refine EL_nil (thn_n ?_)
    rcases csome h with ⟨i1, h⟩ | ⟨i1, h⟩
    ·refine E_cond_true (Eq.trans (show ev _ _ = .bool (o0) from rfl) (congrArg Value.bool i1)) ?_
     refine E_seq (E_region (EL_pur (v := .int .i64 (2)) (P_assign rfl) .plain rfl ?_))
     refine EL_nil (thn_n (E_ret (blk_r ?_)))
     refine thn_r ?_
     obtain rfl := Option.some.inj h
     exact end1 rfl rfl (show _ = .int .i64 (2) from rfl) ⟨_, hfr, rfl⟩
    ·refine E_cond_false (Eq.trans (show ev _ _ = .bool (o0) from rfl) (congrArg Value.bool i1)) ?_
     exact E_skip (blk_n (thn_n (d2 () _ _ ⟨q2, hfr⟩ h)))
  ·rintro _ d3 j3 ⟨m3, hfr⟩ h
   refine E_seq (E_region (EL_pur (v := .int .i64 (0)) (P_assign rfl) .plain rfl ?_))
   refine EL_nil (thn_n (E_ret ?_))
   obtain rfl := Option.some.inj h
   exact end1 rfl rfl (show _ = .int .i64 (0) from rfl) ⟨_, hfr, rfl⟩
/-- griffe/grifferef05.Round -/
def f26 (x0 : FaultLoom) (x1 : List FaultDamage) : Option ((List Str)) :=
 (f60 x0 x1).bind fun y4 =>
 Option.bind (α := (List Str)) (
  lp (σ := (List Str) × Int) (fun yB (n0, o0) =>
   jn (σ := Unit) (fun (_ : Unit) =>
    Option.bind (α := (List Str)) (
     Option.bind (α := Str) (
      lp (σ := Str × Int) (fun zB (j1, u0) =>
       jn (σ := Unit) (fun (_ : Unit) =>
        Option.bind (α := Str) (
         (idx (((x0).Harness).Warps) u0).bind fun d2 =>
         (idx y4 o0).bind fun aC =>
         (idx aC d2).bind fun xA =>
         Option.bind (α := Bool) (
          lp (σ := Bool × Int) (fun bC (q2, y0) =>
           jn (σ := Unit) (fun (_ : Unit) =>
            Option.bind (α := Bool) (
             Option.bind (α := Bool) (
              (idx x1 y0).bind fun z3 =>
              bif ((z3).Kind == (2 : Int)) then
               (idx x1 y0).bind fun m5 =>
               some (((m5).Hook == d2))
              else
               some (false)
              ) fun s2 =>
             bif s2 then
              (idx x1 y0).bind fun yA =>
              some ((yA).Up)
             else
              some (q2)
             ) fun p3 =>
            bC (p3, (w64 (y0 + (1 : Int))))
            ) fun cC =>
           bif (decide (y0 < ((x1).length : Int))) then
            cC ()
           else
            some (q2)
           ) big (xA, (0 : Int))
          ) fun o4 =>
         Option.bind (α := Bool) (
          lp (σ := Bool × Int) (fun dC (z2, i1) =>
           jn (σ := Unit) (fun (_ : Unit) =>
            Option.bind (α := Bool) (
             Option.bind (α := Bool) (
              (idx x1 i1).bind fun c4 =>
              bif ((c4).Kind == (5 : Int)) then
               (idx x1 i1).bind fun n5 =>
               some (((n5).Warp == u0))
              else
               some (false)
              ) fun d3 =>
             bif d3 then
              some (false)
             else
              some (z2)
             ) fun q3 =>
            dC (q3, (w64 (i1 + (1 : Int))))
            ) fun eC =>
           bif (decide (i1 < ((x1).length : Int))) then
            eC ()
           else
            some (z2)
           ) big (o4, (0 : Int))
          ) fun i2 =>
         bif i2 then
          (sadd j1 (⟨[120]⟩ : Str)).bind fun p5 =>
          some (p5)
         else
          (sadd j1 (⟨[46]⟩ : Str)).bind fun q5 =>
          some (q5)
         ) fun d4 =>
        zB (d4, (w64 (u0 + (1 : Int))))
        ) fun iC =>
       bif (decide (u0 < ((((x0).Harness).Warps).length : Int))) then
        iC ()
       else
        some (j1)
       ) big ((⟨[]⟩ : Str), (0 : Int))
      ) fun j2 =>
     (apnd 16 n0 (([j2] : List Str))).bind fun jC =>
     some (jC)
     ) fun e3 =>
    yB (e3, (w64 (o0 + (1 : Int))))
    ) fun kC =>
   bif (decide (o0 < ((y4).length : Int))) then
    kC ()
   else
    some (n0)
   ) big (([] : List Str), (0 : Int))
  ) fun e4 =>
 some (e4)
theorem en26 : Enters Try.prog 26 := enters_of Try.func26 (by kernel_rfl) rfl
theorem wk26 {gI : Gh} {wI : World} {x0 : FaultLoom} {x1 : List FaultDamage} {up0 : Value} (rp0 : RV gI.m wI x0 up0) {up1 : Value} (rp1 : RV gI.m wI x1 up1) {r : (List Str)} (h : f26 x0 x1 = some r) : Fn Try.prog 26 #[up0, up1] gI wI (fun m w v => RV m w (r) v) := by
 unfold f26 at h
 refine fn_of_E Try.func26 rfl (Nat.le_of_ble_eq_true rfl) fun g0 hm hfr => ?_
 have rp0 : RV g0.m wI x0 up0 := hm ▸ rp0
 have rp1 : RV g0.m wI x1 up1 := hm ▸ rp1
 show E _ 102 none _ _ _ _ _
 refine E_seq (E_region (EL_do .plain rfl (D_box (g := g0) rfl rp0 fun g1 w1 p1 hs q1 => ?_)))
 have hfr := hfr.ext hs
 have rp0 := rp0.ext hs
 have rp1 := rp1.ext hs
 refine EL_pur (v := .slice none 0 0) (P_assign rfl) .plain rfl ?_
 refine EL_nil (thn_n (E_seq (E_region (EL_do .plain rfl (D_load (g := g1) Try.isAgg28 Try.sizeOf28 rfl q1 fun v2 r2 => ?_)))))
 refine EL_pur (v := up1) (P_move rfl) .plain rfl ?_
 obtain ⟨y4, sI, h⟩ := bsome h
 refine EL_do .plain rfl (D_call (g := g1) (vs := [v2, up1]) en60 (.cons rfl (.cons rfl .nil)) (wk60 r2 rp1 sI) fun g3 w3_ v3 hs hr => ?_)
 have hfr := hfr.ext hs
 have rp0 := rp0.ext hs
 have rp1 := rp1.ext hs
 have q1 := q1.ext hs
 have r2 := r2.ext hs
 have r3 := hr
 refine EL_do .plain rfl (D_buildSlice (g := g3) 3017 (xs := ([] : List Str)) (vs := []) Try.underlying36 Try.sizeOf9 Try.zeroValue9 rfl rfl .nil RVs.nil rfl rfl fun g5 w5 v5 hs o5 r5 hxt hfl => ?_)
 have hfr := hfr.stp hs
 have rp0 := rp0.stp hs
 have rp1 := rp1.stp hs
 have q1 := q1.stp hs
 have r2 := r2.stp hs
 have r3 := r3.stp hs
 refine EL_pur (v := v3) (P_assign rfl) .plain rfl ?_
 refine EL_pur (v := v5) (P_assign rfl) .plain rfl ?_
 refine EL_nil (thn_n ?_)
 obtain ⟨e4, hx, h⟩ := bsome h
 refine E_join (fun e w => ∃ (g : Gh) (v6 : Value), Fr gI wI g w ∧ e 6 = v6 ∧ RV g.m w (e4 : List Str) v6 ∧ OS 3017 g w 9 (e4 : List Str) v6) (fun Q' hQ => ?_) (fun tI oJ hR => ?_)
 ·replace h := hx
  clear hx
  refine E_seq (E_region (EL_pur (v := .int .i64 (0)) (P_assign rfl) .plain rfl ?_))
  refine EL_nil (thn_n (E_block ?_))
  refine E_lp h (fun (s : (List Str) × Int) e w => ∃ (g : Gh) (v6 : Value), Fr gI wI g w ∧ e 1 = up1 ∧ RV g.m w (x1 : List FaultDamage) up1 ∧ e 2 = p1 ∧ PT g.m w (x0 : FaultLoom) p1 ∧ e 5 = v3 ∧ RV g.m w (y4 : List (List Bool)) v3 ∧ e 6 = v6 ∧ RV g.m w (s.1 : List Str) v6 ∧ OS 3017 g w 9 (s.1 : List Str) v6 ∧ e 7 = .int .i64 (s.2)) ⟨g5, (v5), hfr, rfl, rp1, rfl, q1, rfl, r3, rfl, r5, o5, rfl⟩ (fun X1841 yB uG => ?_)
  rintro ⟨n0, o0⟩ uI pJ ⟨lC, j0, hfr, bD, cD, dD, eD, r6, s6, t6, u6, x6, y6⟩ h
  refine E_joinC h (fun (s : Unit) e w => ∃ (g : Gh) , Fr gI wI g w ∧ e 1 = up1 ∧ RV g.m w (x1 : List FaultDamage) up1 ∧ e 2 = p1 ∧ PT g.m w (x0 : FaultLoom) p1 ∧ e 5 = v3 ∧ RV g.m w (y4 : List (List Bool)) v3 ∧ e 6 = j0 ∧ RV g.m w (n0 : List Str) j0 ∧ OS 3017 g w 9 (n0 : List Str) j0 ∧ e 7 = .int .i64 (o0)) (fun X1844 kC vG h => ?_) ?_
  ·refine E_seq (E_region (EL_pur (v := .int .i64 (o0)) (P_move y6) .plain rfl ?_))
   refine EL_pur (v := v3) (P_move r6) .plain rfl ?_
   refine EL_pur (v := .int .i64 ((y4).length : Int)) (P_len Try.underlying108 rfl s6) .plain rfl ?_
   refine EL_pur (v := .bool ((decide (o0 < ((y4).length : Int))))) (P_int rfl rfl rfl) .plain rfl ?_
   refine EL_nil (thn_n ?_)
   rcases csome h with ⟨x5, h⟩ | ⟨x5, h⟩
   ·refine E_cond_true (Eq.trans (show ev _ _ = .bool ((decide (o0 < ((y4).length : Int)))) from rfl) (congrArg Value.bool x5)) ?_
    exact E_skip (thn_n (vG () _ _ ⟨lC, hfr, bD, cD, dD, eD, r6, s6, t6, u6, x6, y6⟩ h))
   ·refine E_cond_false (Eq.trans (show ev _ _ = .bool ((decide (o0 < ((y4).length : Int)))) from rfl) (congrArg Value.bool x5)) ?_
    refine E_exit ?_
    refine thn_e ?_
    refine thn_e ?_
    refine blk_hit ?_
    obtain rfl := Option.some.inj h
    exact hQ _ _ ⟨lC, (j0), hfr, t6, u6, x6⟩
  ·rintro _ vI qJ ⟨iH, hfr, gD, iD, jD, kD, lD, mD, nD, oD, pD, qD⟩ h
   obtain ⟨e3, hx, h⟩ := bsome h
   refine E_join (fun e w => ∃ (g : Gh) (v6 : Value), Fr gI wI g w ∧ e 1 = up1 ∧ RV g.m w (x1 : List FaultDamage) up1 ∧ e 2 = p1 ∧ PT g.m w (x0 : FaultLoom) p1 ∧ e 5 = v3 ∧ RV g.m w (y4 : List (List Bool)) v3 ∧ e 6 = v6 ∧ RV g.m w (e3 : List Str) v6 ∧ OS 3017 g w 9 (e3 : List Str) v6 ∧ e 7 = .int .i64 (o0)) (fun Q' hQ => ?_) (fun xI rJ hR => ?_)
   ·replace h := hx
    clear hx
    refine E_block ?_
    refine E_seq (E_region (EL_pur (v := Str.v (⟨[]⟩ : Str)) (P_assign rfl) .plain rfl ?_))
    refine EL_nil (thn_n ?_)
    obtain ⟨j2, hx, h⟩ := bsome h
    refine E_join (fun e w => ∃ (g : Gh) , Fr gI wI g w ∧ e 1 = up1 ∧ RV g.m w (x1 : List FaultDamage) up1 ∧ e 2 = p1 ∧ PT g.m w (x0 : FaultLoom) p1 ∧ e 5 = v3 ∧ RV g.m w (y4 : List (List Bool)) v3 ∧ e 6 = j0 ∧ RV g.m w (n0 : List Str) j0 ∧ OS 3017 g w 9 (n0 : List Str) j0 ∧ e 7 = .int .i64 (o0) ∧ e 8 = Str.v (j2)) (fun Q' hQ => ?_) (fun yI jH hR => ?_)
    ·replace h := hx
     clear hx
     refine E_seq (E_region (EL_pur (v := .int .i64 (0)) (P_assign rfl) .plain rfl ?_))
     refine EL_nil (thn_n (E_block ?_))
     refine E_lp h (fun (s : Str × Int) e w => ∃ (g : Gh) , Fr gI wI g w ∧ e 1 = up1 ∧ RV g.m w (x1 : List FaultDamage) up1 ∧ e 2 = p1 ∧ PT g.m w (x0 : FaultLoom) p1 ∧ e 5 = v3 ∧ RV g.m w (y4 : List (List Bool)) v3 ∧ e 6 = j0 ∧ RV g.m w (n0 : List Str) j0 ∧ OS 3017 g w 9 (n0 : List Str) j0 ∧ e 7 = .int .i64 (o0) ∧ e 8 = Str.v (s.1) ∧ e 9 = .int .i64 (s.2)) ⟨iH, hfr, gD, iD, jD, kD, lD, mD, nD, oD, pD, qD, rfl, rfl⟩ (fun X3216 zB xG => ?_)
     rintro ⟨j1, u0⟩ zI sJ ⟨zA, hfr, z6, a7, s4, i4, b7, c7, d7, e7, g7, i7, j7, l7⟩ h
     refine E_joinC h (fun (s : Unit) e w => ∃ (g : Gh) , Fr gI wI g w ∧ e 1 = up1 ∧ RV g.m w (x1 : List FaultDamage) up1 ∧ e 2 = p1 ∧ PT g.m w (x0 : FaultLoom) p1 ∧ e 5 = v3 ∧ RV g.m w (y4 : List (List Bool)) v3 ∧ e 6 = j0 ∧ RV g.m w (n0 : List Str) j0 ∧ OS 3017 g w 9 (n0 : List Str) j0 ∧ e 7 = .int .i64 (o0) ∧ e 8 = Str.v (j1) ∧ e 9 = .int .i64 (u0)) (fun X3222 iC yG h => ?_) ?_
     ·refine E_seq (E_region (EL_pur (v := .int .i64 (u0)) (P_move l7) .plain rfl ?_))
      refine EL_pur (v := fPtr p1 0) (P_fieldAddr at_28_0 s4 (PT.ptr i4)) .plain rfl ?_
      have mC := PT_field (part_FaultLoom_0).1 i4
      refine EL_pur (v := fPtr (fPtr p1 0) 1) (P_fieldAddr at_24_1 rfl (PT.ptr mC)) .plain rfl ?_
      have kH := PT_field (part_TieHarness_1).1 mC
      refine EL_do .plain rfl (D_load (g := zA) Try.isAgg22 Try.sizeOf22 rfl kH fun tJ lH => ?_)
      refine EL_pur (v := .int .i64 ((((x0).Harness).Warps).length : Int)) (P_len Try.underlying22 rfl lH) .plain rfl ?_
      refine EL_pur (v := .bool ((decide (u0 < ((((x0).Harness).Warps).length : Int))))) (P_int rfl rfl rfl) .plain rfl ?_
      refine EL_nil (thn_n ?_)
      rcases csome h with ⟨y5, h⟩ | ⟨y5, h⟩
      ·refine E_cond_true (Eq.trans (show ev _ _ = .bool ((decide (u0 < ((((x0).Harness).Warps).length : Int)))) from rfl) (congrArg Value.bool y5)) ?_
       exact E_skip (thn_n (yG () _ _ ⟨zA, hfr, z6, a7, s4, i4, b7, c7, d7, e7, g7, i7, j7, l7⟩ h))
      ·refine E_cond_false (Eq.trans (show ev _ _ = .bool ((decide (u0 < ((((x0).Harness).Warps).length : Int)))) from rfl) (congrArg Value.bool y5)) ?_
       refine E_exit ?_
       refine thn_e ?_
       refine thn_e ?_
       refine blk_hit ?_
       obtain rfl := Option.some.inj h
       exact hQ _ _ ⟨zA, hfr, z6, a7, s4, i4, b7, c7, d7, e7, g7, i7, j7⟩
     ·rintro _ aJ uJ ⟨r4, hfr, rD, sD, m7, u4, n7, x4, tD, uD, vD, o7, xD, p7⟩ h
      obtain ⟨d4, hx, h⟩ := bsome h
      refine E_join (fun e w => ∃ (g : Gh) , Fr gI wI g w ∧ e 1 = up1 ∧ RV g.m w (x1 : List FaultDamage) up1 ∧ e 2 = p1 ∧ PT g.m w (x0 : FaultLoom) p1 ∧ e 5 = v3 ∧ RV g.m w (y4 : List (List Bool)) v3 ∧ e 6 = j0 ∧ RV g.m w (n0 : List Str) j0 ∧ OS 3017 g w 9 (n0 : List Str) j0 ∧ e 7 = .int .i64 (o0) ∧ e 8 = Str.v (d4) ∧ e 9 = .int .i64 (u0)) (fun Q' hQ => ?_) (fun bJ vJ hR => ?_)
      ·replace h := hx
       clear hx
       refine E_block ?_
       refine E_seq (E_region (EL_pur (v := fPtr p1 0) (P_fieldAddr at_28_0 m7 (PT.ptr u4)) .plain rfl ?_))
       have nC := PT_field (part_FaultLoom_0).1 u4
       refine EL_pur (v := fPtr (fPtr p1 0) 1) (P_fieldAddr at_24_1 rfl (PT.ptr nC)) .plain rfl ?_
       have mH := PT_field (part_TieHarness_1).1 nC
       refine EL_do .plain rfl (D_load (g := r4) Try.isAgg22 Try.sizeOf22 rfl mH fun nH oC => ?_)
       refine EL_pur (v := .int .i64 (u0)) (P_move p7) .plain rfl ?_
       obtain ⟨d2, cB, h⟩ := bsome h
       refine EL_pur (v := ePtr nH u0 1) (P_indexAddr (α := Int) Try.underlying22 Try.sizeOf3 rfl oC rfl cB) .plain rfl ?_
       have oH := PT_idx oC cB
       refine EL_do .plain rfl (D_load (g := r4) Try.isAgg3 Try.sizeOf3 rfl oH fun xJ pH => ?_)
       obtain rfl := RV_int.1 pH
       refine EL_pur (v := .int .i64 (d2)) (P_assign rfl) .plain rfl ?_
       refine EL_nil (thn_n (E_seq (E_region (EL_pur (v := v3) (P_move n7) .plain rfl ?_))))
       refine EL_pur (v := .int .i64 (o0)) (P_move o7) .plain rfl ?_
       obtain ⟨aC, dB, h⟩ := bsome h
       refine EL_pur (v := ePtr v3 o0 1) (P_indexAddr (α := List Bool) Try.underlying108 Try.sizeOf110 rfl x4 rfl dB) .plain rfl ?_
       have qH := PT_idx x4 dB
       refine EL_do .plain rfl (D_load (g := r4) Try.isAgg110 Try.sizeOf110 rfl qH fun rH pC => ?_)
       refine EL_pur (v := .int .i64 (d2)) (P_move rfl) .plain rfl ?_
       obtain ⟨xA, eB, h⟩ := bsome h
       refine EL_pur (v := ePtr rH d2 1) (P_indexAddr (α := Bool) Try.underlying110 Try.sizeOf4 rfl pC rfl eB) .plain rfl ?_
       have sH := PT_idx pC eB
       refine EL_do .plain rfl (D_load (g := r4) Try.isAgg4 Try.sizeOf4 rfl sH fun yJ tH => ?_)
       obtain rfl := RV_bool.1 tH
       refine EL_pur (v := .bool (xA)) (P_assign rfl) .plain rfl ?_
       refine EL_nil (thn_n ?_)
       obtain ⟨o4, hx, h⟩ := bsome h
       refine E_join (fun e w => ∃ (g : Gh) , Fr gI wI g w ∧ e 1 = up1 ∧ RV g.m w (x1 : List FaultDamage) up1 ∧ e 2 = p1 ∧ PT g.m w (x0 : FaultLoom) p1 ∧ e 5 = v3 ∧ RV g.m w (y4 : List (List Bool)) v3 ∧ e 6 = j0 ∧ RV g.m w (n0 : List Str) j0 ∧ OS 3017 g w 9 (n0 : List Str) j0 ∧ e 7 = .int .i64 (o0) ∧ e 8 = Str.v (j1) ∧ e 9 = .int .i64 (u0) ∧ e 11 = .bool (o4)) (fun Q' hQ => ?_) (fun cJ zJ hR => ?_)
       ·replace h := hx
        clear hx
        refine E_seq (E_region (EL_pur (v := .int .i64 (0)) (P_assign rfl) .plain rfl ?_))
        refine EL_nil (thn_n (E_block ?_))
        refine E_lp h (fun (s : Bool × Int) e w => ∃ (g : Gh) , Fr gI wI g w ∧ e 1 = up1 ∧ RV g.m w (x1 : List FaultDamage) up1 ∧ e 2 = p1 ∧ PT g.m w (x0 : FaultLoom) p1 ∧ e 5 = v3 ∧ RV g.m w (y4 : List (List Bool)) v3 ∧ e 6 = j0 ∧ RV g.m w (n0 : List Str) j0 ∧ OS 3017 g w 9 (n0 : List Str) j0 ∧ e 7 = .int .i64 (o0) ∧ e 8 = Str.v (j1) ∧ e 9 = .int .i64 (u0) ∧ e 10 = .int .i64 (d2) ∧ e 11 = .bool (s.1) ∧ e 12 = .int .i64 (s.2)) ⟨r4, hfr, rD, sD, m7, u4, n7, x4, tD, uD, vD, o7, xD, p7, rfl, rfl, rfl⟩ (fun X3516 bC zG => ?_)
        rintro ⟨q2, y0⟩ dJ aK ⟨qC, hfr, z4, b5, q7, r7, s7, t7, u7, v7, x7, y7, z7, a8, nB, z5, a6⟩ h
        refine E_joinC h (fun (s : Unit) e w => ∃ (g : Gh) , Fr gI wI g w ∧ e 1 = up1 ∧ RV g.m w (x1 : List FaultDamage) up1 ∧ e 2 = p1 ∧ PT g.m w (x0 : FaultLoom) p1 ∧ e 5 = v3 ∧ RV g.m w (y4 : List (List Bool)) v3 ∧ e 6 = j0 ∧ RV g.m w (n0 : List Str) j0 ∧ OS 3017 g w 9 (n0 : List Str) j0 ∧ e 7 = .int .i64 (o0) ∧ e 8 = Str.v (j1) ∧ e 9 = .int .i64 (u0) ∧ e 10 = .int .i64 (d2) ∧ e 11 = .bool (q2) ∧ e 12 = .int .i64 (y0)) (fun X3519 cC aH h => ?_) ?_
        ·refine E_seq (E_region (EL_pur (v := .int .i64 (y0)) (P_move a6) .plain rfl ?_))
         refine EL_pur (v := up1) (P_move z4) .plain rfl ?_
         refine EL_pur (v := .int .i64 ((x1).length : Int)) (P_len Try.underlying29 rfl b5) .plain rfl ?_
         refine EL_pur (v := .bool ((decide (y0 < ((x1).length : Int))))) (P_int rfl rfl rfl) .plain rfl ?_
         refine EL_nil (thn_n ?_)
         rcases csome h with ⟨b6, h⟩ | ⟨b6, h⟩
         ·refine E_cond_true (Eq.trans (show ev _ _ = .bool ((decide (y0 < ((x1).length : Int)))) from rfl) (congrArg Value.bool b6)) ?_
          exact E_skip (thn_n (aH () _ _ ⟨qC, hfr, z4, b5, q7, r7, s7, t7, u7, v7, x7, y7, z7, a8, nB, z5, a6⟩ h))
         ·refine E_cond_false (Eq.trans (show ev _ _ = .bool ((decide (y0 < ((x1).length : Int)))) from rfl) (congrArg Value.bool b6)) ?_
          refine E_exit ?_
          refine thn_e ?_
          refine thn_e ?_
          refine blk_hit ?_
          obtain rfl := Option.some.inj h
          exact hQ _ _ ⟨qC, hfr, z4, b5, q7, r7, s7, t7, u7, v7, x7, y7, z7, a8, z5⟩
        ·rintro _ eJ bK ⟨t5, hfr, j4, m2, b8, c8, d8, e8, g8, i8, j8, k8, l8, m8, p4, c6, s3⟩ h
         obtain ⟨p3, hx, h⟩ := bsome h
         refine E_join (fun e w => ∃ (g : Gh) , Fr gI wI g w ∧ e 1 = up1 ∧ RV g.m w (x1 : List FaultDamage) up1 ∧ e 2 = p1 ∧ PT g.m w (x0 : FaultLoom) p1 ∧ e 5 = v3 ∧ RV g.m w (y4 : List (List Bool)) v3 ∧ e 6 = j0 ∧ RV g.m w (n0 : List Str) j0 ∧ OS 3017 g w 9 (n0 : List Str) j0 ∧ e 7 = .int .i64 (o0) ∧ e 8 = Str.v (j1) ∧ e 9 = .int .i64 (u0) ∧ e 10 = .int .i64 (d2) ∧ e 11 = .bool (p3) ∧ e 12 = .int .i64 (y0)) (fun Q' hQ => ?_) (fun gJ cK hR => ?_)
         ·replace h := hx
          clear hx
          refine E_block ?_
          obtain ⟨s2, hx, h⟩ := bsome h
          refine E_join (fun e w => ∃ (g : Gh) , Fr gI wI g w ∧ e 1 = up1 ∧ RV g.m w (x1 : List FaultDamage) up1 ∧ e 2 = p1 ∧ PT g.m w (x0 : FaultLoom) p1 ∧ e 5 = v3 ∧ RV g.m w (y4 : List (List Bool)) v3 ∧ e 6 = j0 ∧ RV g.m w (n0 : List Str) j0 ∧ OS 3017 g w 9 (n0 : List Str) j0 ∧ e 7 = .int .i64 (o0) ∧ e 8 = Str.v (j1) ∧ e 9 = .int .i64 (u0) ∧ e 10 = .int .i64 (d2) ∧ e 11 = .bool (q2) ∧ e 12 = .int .i64 (y0) ∧ e 65 = .bool (s2)) (fun Q' hQ => ?_) (fun iJ dK hR => ?_)
          ·replace h := hx
           clear hx
           refine E_region (EL_pur (v := up1) (P_move j4) .plain rfl ?_)
           refine EL_pur (v := .int .i64 (y0)) (P_move s3) .plain rfl ?_
           obtain ⟨z3, iB, h⟩ := bsome h
           refine EL_pur (v := ePtr up1 y0 5) (P_indexAddr (α := FaultDamage) Try.underlying29 Try.sizeOf62 rfl m2 rfl iB) .plain rfl ?_
           have rC := PT_idx m2 iB
           refine EL_pur (v := fPtr (ePtr up1 y0 5) 0) (P_fieldAddr at_62_0 rfl (PT.ptr rC)) .plain rfl ?_
           have uH := PT_field (part_FaultDamage_0).1 rC
           refine EL_do .plain rfl (D_load (g := t5) Try.isAgg60 Try.sizeOf60 rfl uH fun eK vH => ?_)
           obtain rfl := RV_int.1 vH
           refine EL_pur (v := .bool (((z3).Kind == (2 : Int)))) (P_int rfl rfl rfl) .plain rfl ?_
           refine EL_pur (v := .bool (((z3).Kind == (2 : Int)))) (P_move rfl) .plain rfl ?_
           rcases csome h with ⟨m1, h⟩ | ⟨m1, h⟩
           ·refine EL_pur (v := up1) (P_move j4) (.yes2 rfl rfl m1) rfl ?_
            refine EL_pur (v := .int .i64 (y0)) (P_move s3) (.yes2 rfl rfl m1) rfl ?_
            obtain ⟨m5, jB, h⟩ := bsome h
            refine EL_pur (v := ePtr up1 y0 5) (P_indexAddr (α := FaultDamage) Try.underlying29 Try.sizeOf62 rfl m2 rfl jB) (.yes2 rfl rfl m1) rfl ?_
            have sC := PT_idx m2 jB
            refine EL_pur (v := fPtr (ePtr up1 y0 5) 2) (P_fieldAddr at_62_2 rfl (PT.ptr sC)) (.yes2 rfl rfl m1) rfl ?_
            have xH := PT_field (part_FaultDamage_2).1 sC
            refine EL_do (.yes2 rfl rfl m1) rfl (D_load (g := t5) Try.isAgg3 Try.sizeOf3 rfl xH fun gK yH => ?_)
            obtain rfl := RV_int.1 yH
            refine EL_pur (v := .int .i64 (d2)) (P_move p4) (.yes2 rfl rfl m1) rfl ?_
            refine EL_pur (v := .bool (((m5).Hook == d2))) (P_int rfl rfl rfl) (.yes2 rfl rfl m1) rfl ?_
            refine EL_pur (v := .bool (((m5).Hook == d2))) (P_pick (b := ((z3).Kind == (2 : Int))) rfl (pick_t m1 rfl)) .plain rfl ?_
            refine EL_nil ?_
            obtain rfl := Option.some.inj h
            exact hQ _ _ ⟨t5, hfr, j4, m2, b8, c8, d8, e8, g8, i8, j8, k8, l8, m8, p4, c6, s3, rfl⟩
           ·refine EL_skip (.no2 rfl rfl m1 rfl) rfl ?_
            refine EL_skip (.no2 rfl rfl m1 rfl) rfl ?_
            refine EL_skip (.no2 rfl rfl m1 rfl) rfl ?_
            refine EL_skip (.no2 rfl rfl m1 rfl) rfl ?_
            refine EL_skip (.no2 rfl rfl m1 rfl) rfl ?_
            refine EL_skip (.no2 rfl rfl m1 rfl) rfl ?_
            refine EL_skip (.no2 rfl rfl m1 rfl) rfl ?_
            refine EL_pur (v := .bool false) (P_pick (b := ((z3).Kind == (2 : Int))) rfl (pick_f m1 rfl)) .plain rfl ?_
            refine EL_nil ?_
            obtain rfl := Option.some.inj h
            exact hQ _ _ ⟨t5, hfr, j4, m2, b8, c8, d8, e8, g8, i8, j8, k8, l8, m8, p4, c6, s3, rfl⟩
          ·clear hx
           obtain ⟨aB, hfr, c5, m4, n8, o8, p8, q8, r8, t8, v8, x8, y8, z8, d6, oB, q4, e6⟩ := hR
           rcases csome h with ⟨i6, h⟩ | ⟨i6, h⟩
           ·refine E_cond_true (Eq.trans (show ev _ _ = .bool (s2) from e6) (congrArg Value.bool i6)) ?_
            refine E_region (EL_pur (v := up1) (P_move c5) .plain rfl ?_)
            refine EL_pur (v := .int .i64 (y0)) (P_move q4) .plain rfl ?_
            obtain ⟨yA, kB, h⟩ := bsome h
            refine EL_pur (v := ePtr up1 y0 5) (P_indexAddr (α := FaultDamage) Try.underlying29 Try.sizeOf62 rfl m4 rfl kB) .plain rfl ?_
            have tC := PT_idx m4 kB
            refine EL_pur (v := fPtr (ePtr up1 y0 5) 4) (P_fieldAddr at_62_4 rfl (PT.ptr tC)) .plain rfl ?_
            have zH := PT_field (part_FaultDamage_4).1 tC
            refine EL_do .plain rfl (D_load (g := aB) Try.isAgg4 Try.sizeOf4 rfl zH fun iK aI => ?_)
            obtain rfl := RV_bool.1 aI
            refine EL_pur (v := .bool ((yA).Up)) (P_assign rfl) .plain rfl ?_
            refine EL_nil (blk_n ?_)
            obtain rfl := Option.some.inj h
            exact hQ _ _ ⟨aB, hfr, c5, m4, n8, o8, p8, q8, r8, t8, v8, x8, y8, z8, d6, rfl, q4⟩
           ·refine E_cond_false (Eq.trans (show ev _ _ = .bool (s2) from e6) (congrArg Value.bool i6)) ?_
            refine E_skip (blk_n ?_)
            obtain rfl := Option.some.inj h
            exact hQ _ _ ⟨aB, hfr, c5, m4, n8, o8, p8, q8, r8, t8, v8, x8, y8, z8, d6, oB, q4⟩
         ·clear hx
          obtain ⟨bI, hfr, yD, zD, aE, bE, cE, dE, eE, gE, iE, jE, kE, lE, pB, qB, rB⟩ := hR
          refine E_region (EL_pur (v := .int .i64 (y0)) (P_move rB) .plain rfl ?_)
          refine EL_pur (v := .int .i64 ((w64 (y0 + (1 : Int))))) (P_int rfl rfl rfl) .plain rfl ?_
          refine EL_pur (v := .int .i64 ((w64 (y0 + (1 : Int))))) (P_assign rfl) .plain rfl ?_
          exact EL_nil (thn_n (zG (p3, (w64 (y0 + (1 : Int)))) _ _ ⟨bI, hfr, yD, zD, aE, bE, cE, dE, eE, gE, iE, jE, kE, lE, pB, qB, rfl⟩ h))
       ·clear hx
        obtain ⟨cI, hfr, mE, nE, oE, pE, qE, rE, sE, tE, uE, vE, xE, yE, sB⟩ := hR
        obtain ⟨i2, hx, h⟩ := bsome h
        refine E_join (fun e w => ∃ (g : Gh) , Fr gI wI g w ∧ e 1 = up1 ∧ RV g.m w (x1 : List FaultDamage) up1 ∧ e 2 = p1 ∧ PT g.m w (x0 : FaultLoom) p1 ∧ e 5 = v3 ∧ RV g.m w (y4 : List (List Bool)) v3 ∧ e 6 = j0 ∧ RV g.m w (n0 : List Str) j0 ∧ OS 3017 g w 9 (n0 : List Str) j0 ∧ e 7 = .int .i64 (o0) ∧ e 8 = Str.v (j1) ∧ e 9 = .int .i64 (u0) ∧ e 11 = .bool (i2)) (fun Q' hQ => ?_) (fun jJ jK hR => ?_)
        ·replace h := hx
         clear hx
         refine E_seq (E_region (EL_pur (v := .int .i64 (0)) (P_assign rfl) .plain rfl ?_))
         refine EL_nil (thn_n (E_block ?_))
         refine E_lp h (fun (s : Bool × Int) e w => ∃ (g : Gh) , Fr gI wI g w ∧ e 1 = up1 ∧ RV g.m w (x1 : List FaultDamage) up1 ∧ e 2 = p1 ∧ PT g.m w (x0 : FaultLoom) p1 ∧ e 5 = v3 ∧ RV g.m w (y4 : List (List Bool)) v3 ∧ e 6 = j0 ∧ RV g.m w (n0 : List Str) j0 ∧ OS 3017 g w 9 (n0 : List Str) j0 ∧ e 7 = .int .i64 (o0) ∧ e 8 = Str.v (j1) ∧ e 9 = .int .i64 (u0) ∧ e 11 = .bool (s.1) ∧ e 13 = .int .i64 (s.2)) ⟨cI, hfr, mE, nE, oE, pE, qE, rE, sE, tE, uE, vE, xE, yE, sB, rfl⟩ (fun X3619 dC bH => ?_)
         rintro ⟨z2, i1⟩ kJ kK ⟨uC, hfr, d5, e5, a9, b9, c9, d9, e9, g9, i9, j9, k9, l9, j6, k6⟩ h
         refine E_joinC h (fun (s : Unit) e w => ∃ (g : Gh) , Fr gI wI g w ∧ e 1 = up1 ∧ RV g.m w (x1 : List FaultDamage) up1 ∧ e 2 = p1 ∧ PT g.m w (x0 : FaultLoom) p1 ∧ e 5 = v3 ∧ RV g.m w (y4 : List (List Bool)) v3 ∧ e 6 = j0 ∧ RV g.m w (n0 : List Str) j0 ∧ OS 3017 g w 9 (n0 : List Str) j0 ∧ e 7 = .int .i64 (o0) ∧ e 8 = Str.v (j1) ∧ e 9 = .int .i64 (u0) ∧ e 11 = .bool (z2) ∧ e 13 = .int .i64 (i1)) (fun X3622 eC cH h => ?_) ?_
         ·refine E_seq (E_region (EL_pur (v := .int .i64 (i1)) (P_move k6) .plain rfl ?_))
          refine EL_pur (v := up1) (P_move d5) .plain rfl ?_
          refine EL_pur (v := .int .i64 ((x1).length : Int)) (P_len Try.underlying29 rfl e5) .plain rfl ?_
          refine EL_pur (v := .bool ((decide (i1 < ((x1).length : Int))))) (P_int rfl rfl rfl) .plain rfl ?_
          refine EL_nil (thn_n ?_)
          rcases csome h with ⟨l6, h⟩ | ⟨l6, h⟩
          ·refine E_cond_true (Eq.trans (show ev _ _ = .bool ((decide (i1 < ((x1).length : Int)))) from rfl) (congrArg Value.bool l6)) ?_
           exact E_skip (thn_n (cH () _ _ ⟨uC, hfr, d5, e5, a9, b9, c9, d9, e9, g9, i9, j9, k9, l9, j6, k6⟩ h))
          ·refine E_cond_false (Eq.trans (show ev _ _ = .bool ((decide (i1 < ((x1).length : Int)))) from rfl) (congrArg Value.bool l6)) ?_
           refine E_exit ?_
           refine thn_e ?_
           refine thn_e ?_
           refine blk_hit ?_
           obtain rfl := Option.some.inj h
           exact hQ _ _ ⟨uC, hfr, d5, e5, a9, b9, c9, d9, e9, g9, i9, j9, k9, l9, j6⟩
         ·rintro _ lJ lK ⟨u5, hfr, n4, p2, m9, n9, o9, p9, q9, r9, s9, t9, u9, i5, m6, u3⟩ h
          obtain ⟨q3, hx, h⟩ := bsome h
          refine E_join (fun e w => ∃ (g : Gh) , Fr gI wI g w ∧ e 1 = up1 ∧ RV g.m w (x1 : List FaultDamage) up1 ∧ e 2 = p1 ∧ PT g.m w (x0 : FaultLoom) p1 ∧ e 5 = v3 ∧ RV g.m w (y4 : List (List Bool)) v3 ∧ e 6 = j0 ∧ RV g.m w (n0 : List Str) j0 ∧ OS 3017 g w 9 (n0 : List Str) j0 ∧ e 7 = .int .i64 (o0) ∧ e 8 = Str.v (j1) ∧ e 9 = .int .i64 (u0) ∧ e 11 = .bool (q3) ∧ e 13 = .int .i64 (i1)) (fun Q' hQ => ?_) (fun mJ mK hR => ?_)
          ·replace h := hx
           clear hx
           refine E_block ?_
           obtain ⟨d3, hx, h⟩ := bsome h
           refine E_join (fun e w => ∃ (g : Gh) , Fr gI wI g w ∧ e 1 = up1 ∧ RV g.m w (x1 : List FaultDamage) up1 ∧ e 2 = p1 ∧ PT g.m w (x0 : FaultLoom) p1 ∧ e 5 = v3 ∧ RV g.m w (y4 : List (List Bool)) v3 ∧ e 6 = j0 ∧ RV g.m w (n0 : List Str) j0 ∧ OS 3017 g w 9 (n0 : List Str) j0 ∧ e 7 = .int .i64 (o0) ∧ e 8 = Str.v (j1) ∧ e 9 = .int .i64 (u0) ∧ e 11 = .bool (z2) ∧ e 13 = .int .i64 (i1) ∧ e 91 = .bool (d3)) (fun Q' hQ => ?_) (fun nJ nK hR => ?_)
           ·replace h := hx
            clear hx
            refine E_region (EL_pur (v := up1) (P_move n4) .plain rfl ?_)
            refine EL_pur (v := .int .i64 (i1)) (P_move u3) .plain rfl ?_
            obtain ⟨c4, lB, h⟩ := bsome h
            refine EL_pur (v := ePtr up1 i1 5) (P_indexAddr (α := FaultDamage) Try.underlying29 Try.sizeOf62 rfl p2 rfl lB) .plain rfl ?_
            have vC := PT_idx p2 lB
            refine EL_pur (v := fPtr (ePtr up1 i1 5) 0) (P_fieldAddr at_62_0 rfl (PT.ptr vC)) .plain rfl ?_
            have dI := PT_field (part_FaultDamage_0).1 vC
            refine EL_do .plain rfl (D_load (g := u5) Try.isAgg60 Try.sizeOf60 rfl dI fun oK eI => ?_)
            obtain rfl := RV_int.1 eI
            refine EL_pur (v := .bool (((c4).Kind == (5 : Int)))) (P_int rfl rfl rfl) .plain rfl ?_
            refine EL_pur (v := .bool (((c4).Kind == (5 : Int)))) (P_move rfl) .plain rfl ?_
            rcases csome h with ⟨z1, h⟩ | ⟨z1, h⟩
            ·refine EL_pur (v := up1) (P_move n4) (.yes2 rfl rfl z1) rfl ?_
             refine EL_pur (v := .int .i64 (i1)) (P_move u3) (.yes2 rfl rfl z1) rfl ?_
             obtain ⟨n5, mB, h⟩ := bsome h
             refine EL_pur (v := ePtr up1 i1 5) (P_indexAddr (α := FaultDamage) Try.underlying29 Try.sizeOf62 rfl p2 rfl mB) (.yes2 rfl rfl z1) rfl ?_
             have xC := PT_idx p2 mB
             refine EL_pur (v := fPtr (ePtr up1 i1 5) 3) (P_fieldAddr at_62_3 rfl (PT.ptr xC)) (.yes2 rfl rfl z1) rfl ?_
             have iI := PT_field (part_FaultDamage_3).1 xC
             refine EL_do (.yes2 rfl rfl z1) rfl (D_load (g := u5) Try.isAgg3 Try.sizeOf3 rfl iI fun pK jI => ?_)
             obtain rfl := RV_int.1 jI
             refine EL_pur (v := .int .i64 (u0)) (P_move i5) (.yes2 rfl rfl z1) rfl ?_
             refine EL_pur (v := .bool (((n5).Warp == u0))) (P_int rfl rfl rfl) (.yes2 rfl rfl z1) rfl ?_
             refine EL_pur (v := .bool (((n5).Warp == u0))) (P_pick (b := ((c4).Kind == (5 : Int))) rfl (pick_t z1 rfl)) .plain rfl ?_
             refine EL_nil ?_
             obtain rfl := Option.some.inj h
             exact hQ _ _ ⟨u5, hfr, n4, p2, m9, n9, o9, p9, q9, r9, s9, t9, u9, i5, m6, u3, rfl⟩
            ·refine EL_skip (.no2 rfl rfl z1 rfl) rfl ?_
             refine EL_skip (.no2 rfl rfl z1 rfl) rfl ?_
             refine EL_skip (.no2 rfl rfl z1 rfl) rfl ?_
             refine EL_skip (.no2 rfl rfl z1 rfl) rfl ?_
             refine EL_skip (.no2 rfl rfl z1 rfl) rfl ?_
             refine EL_skip (.no2 rfl rfl z1 rfl) rfl ?_
             refine EL_skip (.no2 rfl rfl z1 rfl) rfl ?_
             refine EL_pur (v := .bool false) (P_pick (b := ((c4).Kind == (5 : Int))) rfl (pick_f z1 rfl)) .plain rfl ?_
             refine EL_nil ?_
             obtain rfl := Option.some.inj h
             exact hQ _ _ ⟨u5, hfr, n4, p2, m9, n9, o9, p9, q9, r9, s9, t9, u9, i5, m6, u3, rfl⟩
           ·clear hx
            obtain ⟨yC, hfr, v9, x9, y9, z9, aA, bA, cA, dA, eA, gA, iA, jA, tB, n6, o6⟩ := hR
            rcases csome h with ⟨p6, h⟩ | ⟨p6, h⟩
            ·refine E_cond_true (Eq.trans (show ev _ _ = .bool (d3) from o6) (congrArg Value.bool p6)) ?_
             refine E_region (EL_pur (v := .bool false) (P_assign rfl) .plain rfl ?_)
             refine EL_nil (blk_n ?_)
             obtain rfl := Option.some.inj h
             exact hQ _ _ ⟨yC, hfr, v9, x9, y9, z9, aA, bA, cA, dA, eA, gA, iA, jA, rfl, n6⟩
            ·refine E_cond_false (Eq.trans (show ev _ _ = .bool (d3) from o6) (congrArg Value.bool p6)) ?_
             refine E_skip (blk_n ?_)
             obtain rfl := Option.some.inj h
             exact hQ _ _ ⟨yC, hfr, v9, x9, y9, z9, aA, bA, cA, dA, eA, gA, iA, jA, tB, n6⟩
          ·clear hx
           obtain ⟨kI, hfr, zE, aF, bF, cF, dF, eF, gF, iF, jF, kF, lF, mF, uB, vB⟩ := hR
           refine E_region (EL_pur (v := .int .i64 (i1)) (P_move vB) .plain rfl ?_)
           refine EL_pur (v := .int .i64 ((w64 (i1 + (1 : Int))))) (P_int rfl rfl rfl) .plain rfl ?_
           refine EL_pur (v := .int .i64 ((w64 (i1 + (1 : Int))))) (P_assign rfl) .plain rfl ?_
           exact EL_nil (thn_n (bH (q3, (w64 (i1 + (1 : Int)))) _ _ ⟨kI, hfr, zE, aF, bF, cF, dF, eF, gF, iF, jF, kF, lF, mF, uB, rfl⟩ h))
        ·clear hx
         obtain ⟨zC, hfr, kA, lA, mA, nA, oA, pA, qA, rA, sA, tA, uA, vA, xB⟩ := hR
         refine E_seq (E_region (EL_pur (v := .bool (i2)) (P_move xB) .plain rfl ?_))
         refine EL_nil (thn_n ?_)
         rcases csome h with ⟨q6, h⟩ | ⟨q6, h⟩
         ·refine E_cond_true (Eq.trans (show ev _ _ = .bool (i2) from rfl) (congrArg Value.bool q6)) ?_
          refine E_region (EL_pur (v := Str.v (j1)) (P_move uA) .plain rfl ?_)
          obtain ⟨p5, dH, h⟩ := bsome h
          refine EL_pur (v := Str.v (p5)) (P_str rfl rfl (sadd_sop dH)) .plain rfl ?_
          refine EL_pur (v := Str.v (p5)) (P_assign rfl) .plain rfl ?_
          refine EL_nil (blk_n ?_)
          obtain rfl := Option.some.inj h
          exact hQ _ _ ⟨zC, hfr, kA, lA, mA, nA, oA, pA, qA, rA, sA, tA, rfl, vA⟩
         ·refine E_cond_false (Eq.trans (show ev _ _ = .bool (i2) from rfl) (congrArg Value.bool q6)) ?_
          refine E_region (EL_pur (v := Str.v (j1)) (P_move uA) .plain rfl ?_)
          obtain ⟨q5, eH, h⟩ := bsome h
          refine EL_pur (v := Str.v (q5)) (P_str rfl rfl (sadd_sop eH)) .plain rfl ?_
          refine EL_pur (v := Str.v (q5)) (P_assign rfl) .plain rfl ?_
          refine EL_nil (blk_n ?_)
          obtain rfl := Option.some.inj h
          exact hQ _ _ ⟨zC, hfr, kA, lA, mA, nA, oA, pA, qA, rA, sA, tA, rfl, vA⟩
      ·clear hx
       obtain ⟨lI, hfr, nF, oF, pF, qF, rF, sF, tF, uF, vF, xF, yF, zF⟩ := hR
       refine E_region (EL_pur (v := .int .i64 (u0)) (P_move zF) .plain rfl ?_)
       refine EL_pur (v := .int .i64 ((w64 (u0 + (1 : Int))))) (P_int rfl rfl rfl) .plain rfl ?_
       refine EL_pur (v := .int .i64 ((w64 (u0 + (1 : Int))))) (P_assign rfl) .plain rfl ?_
       exact EL_nil (thn_n (xG (d4, (w64 (u0 + (1 : Int)))) _ _ ⟨lI, hfr, nF, oF, pF, qF, rF, sF, tF, uF, vF, xF, yF, rfl⟩ h))
    ·clear hx
     obtain ⟨mI, hfr, aG, i3, bG, j3, cG, m3, dG, o3, j5, eG, gG⟩ := hR
     refine E_region (EL_pur (v := j0) (P_move dG) .plain rfl ?_)
     refine EL_pur (v := Str.v (j2)) (P_move gG) .plain rfl ?_
     refine EL_do .plain rfl (D_buildSlice (g := mI) 3099 (xs := ([j2] : List Str)) (vs := [Str.v (j2)]) Try.underlying36 Try.sizeOf9 Try.zeroValue9 rfl rfl (.cons rfl .nil) (RVs.cons (RV_str.2 rfl) RVs.nil) rfl rfl fun nI qK rK hs o3672 bB hxt hfl => ?_)
     have hfr := hfr.stp hs
     have i3 := i3.stp hs
     have j3 := j3.stp hs
     have m3 := m3.stp hs
     have o3 := o3.stp hs
     have j5 := j5.stp hs rfl
     obtain ⟨jC, gH, h⟩ := bsome h
     refine EL_do .plain rfl (D_append (g := nI) (i := 3017) Try.underlying36 info_9 rfl rfl j5 o3 rfl bB gH fun oI jH aD hs o3673 pI _ => ?_)
     have hfr := hfr.stp hs
     have i3 := i3.stp hs
     have j3 := j3.stp hs
     have m3 := m3.stp hs
     have o3 := o3.stp hs
     have bB := bB.stp hs
     have o3672 := o3672.stp hs rfl
     refine EL_pur (v := aD) (P_assign rfl) .plain rfl ?_
     refine EL_nil (blk_n ?_)
     obtain rfl := Option.some.inj h
     exact hQ _ _ ⟨oI, (aD), hfr, aG, i3, bG, j3, cG, m3, rfl, pI, o3673, eG⟩
   ·clear hx
    obtain ⟨qI, hG, hfr, iG, jG, kG, lG, mG, nG, oG, pG, qG, rG⟩ := hR
    refine E_region (EL_pur (v := .int .i64 (o0)) (P_move rG) .plain rfl ?_)
    refine EL_pur (v := .int .i64 ((w64 (o0 + (1 : Int))))) (P_int rfl rfl rfl) .plain rfl ?_
    refine EL_pur (v := .int .i64 ((w64 (o0 + (1 : Int))))) (P_assign rfl) .plain rfl ?_
    exact EL_nil (thn_n (uG (e3, (w64 (o0 + (1 : Int)))) _ _ ⟨qI, (hG), hfr, iG, jG, kG, lG, mG, nG, oG, pG, qG, rfl⟩ h))
 ·clear hx
  obtain ⟨sK, l5, hfr, sG, tG, rI⟩ := hR
  refine E_seq (E_region (EL_pur (v := l5) (P_move sG) .plain rfl ?_))
  refine EL_pur (v := l5) (P_assign rfl) .plain rfl ?_
  refine EL_nil (thn_n (E_ret ?_))
  obtain rfl := Option.some.inj h
  exact end1 rfl rfl (show _ = l5 from rfl) ⟨_, hfr, tG⟩
/-- griffe/grifferef05.One -/
def f36 (x0 : FaultLoom) (x1 : FaultDamage) : Option ((List Str)) :=
 (f26 x0 (([x1] : List FaultDamage))).bind fun y7 =>
 some (y7)
theorem en36 : Enters Try.prog 36 := enters_of Try.func36 (by kernel_rfl) rfl
theorem wk36 {gI : Gh} {wI : World} {x0 : FaultLoom} {x1 : FaultDamage} {up0 : Value} (rp0 : RV gI.m wI x0 up0) {up1 : Value} (rp1 : RV gI.m wI x1 up1) {r : (List Str)} (h : f36 x0 x1 = some r) : Fn Try.prog 36 #[up0, up1] gI wI (fun m w v => RV m w (r) v) := by
 unfold f36 at h
 refine fn_of_E Try.func36 rfl (Nat.le_of_ble_eq_true rfl) fun g0 hm hfr => ?_
 have rp0 : RV g0.m wI x0 up0 := hm ▸ rp0
 have rp1 : RV g0.m wI x1 up1 := hm ▸ rp1
 show E _ 9 none _ _ _ _ _
 refine E_seq (E_region (EL_do .plain rfl (D_box (g := g0) rfl rp0 fun g1 w1 p1 hs q1 => ?_)))
 have hfr := hfr.ext hs
 have rp0 := rp0.ext hs
 have rp1 := rp1.ext hs
 refine EL_do .plain rfl (D_box (g := g1) rfl rp1 fun g2 w2 p2 hs q2 => ?_)
 have hfr := hfr.ext hs
 have rp0 := rp0.ext hs
 have rp1 := rp1.ext hs
 have q1 := q1.ext hs
 refine EL_pur (v := .slice none 0 0) (P_assign rfl) .plain rfl ?_
 refine EL_nil (thn_n (E_seq (E_region (EL_do .plain rfl (D_load (g := g2) Try.isAgg28 Try.sizeOf28 rfl q1 fun v3 r3 => ?_)))))
 refine EL_do .plain rfl (D_load (g := g2) Try.isAgg62 Try.sizeOf62 rfl q2 fun v4 r4 => ?_)
 refine EL_do .plain rfl (D_buildSlice (g := g2) 3007 (xs := ([x1] : List FaultDamage)) (vs := [v4]) Try.underlying29 Try.sizeOf62 Try.zeroValue62 rfl rfl (.cons rfl .nil) (RVs.cons r4 RVs.nil) rfl rfl fun g5 w5 v5 hs o5 r5 hxt hfl => ?_)
 have hfr := hfr.stp hs
 have rp0 := rp0.stp hs
 have rp1 := rp1.stp hs
 have q1 := q1.stp hs
 have q2 := q2.stp hs
 have r3 := r3.stp hs
 have r4 := r4.stp hs
 obtain ⟨y7, j0, h⟩ := bsome h
 refine EL_do .plain rfl (D_call (g := g5) (vs := [v3, v5]) en26 (.cons rfl (.cons rfl .nil)) (wk26 r3 r5 j0) fun g6 w6_ v6 hs hr => ?_)
 have hfr := hfr.ext hs
 have rp0 := rp0.ext hs
 have rp1 := rp1.ext hs
 have q1 := q1.ext hs
 have q2 := q2.ext hs
 have r3 := r3.ext hs
 have r4 := r4.ext hs
 have r5 := r5.ext hs
 have o5 := o5.ext hs
 have r6 := hr
 refine EL_pur (v := v6) (P_assign rfl) .plain rfl ?_
 refine EL_nil (thn_n (E_ret ?_))
 obtain rfl := Option.some.inj h
 exact end1 rfl rfl (show _ = v6 from rfl) ⟨_, hfr, r6⟩
/-- griffe/fault.open -/
def f54 (x0 : FaultLoom) (x1 : List FaultDamage) (x2 : Int) : Option (Int) :=
 jn (σ := Unit) (fun (_ : Unit) =>
  jn (σ := Unit) (fun (_ : Unit) =>
   some ((0 : Int))
   ) fun i1 =>
  (f62 ((1 : Int)) ((120 : Int)) (([x2] : List Int))).bind fun j0 =>
  bif (!j0) then
   some ((3 : Int))
  else
   i1 ()
  ) fun k6 =>
 (f18 x0 x1).bind fun y9 =>
 bif (y9 != (0 : Int)) then
  some (y9)
 else
  k6 ()
theorem en54 : Enters Try.prog 54 := enters_of Try.func54 (by kernel_rfl) rfl
theorem wk54 {gI : Gh} {wI : World} {x0 : FaultLoom} {x1 : List FaultDamage} {x2 : Int} {up0 : Value} (rp0 : RV gI.m wI x0 up0) {up1 : Value} (rp1 : RV gI.m wI x1 up1) {r : Int} (h : f54 x0 x1 x2 = some r) : Fn Try.prog 54 #[up0, up1, .int .i64 (x2)] gI wI (fun _ _ v => v = .int .i64 (r)) := by
 unfold f54 at h
 refine fn_of_E Try.func54 rfl (Nat.le_of_ble_eq_true rfl) fun g0 hm hfr => ?_
 have rp0 : RV g0.m wI x0 up0 := hm ▸ rp0
 have rp1 : RV g0.m wI x1 up1 := hm ▸ rp1
 show E _ 18 none _ _ _ _ _
 refine E_seq (E_region (EL_do .plain rfl (D_box (g := g0) rfl rp0 fun g1 w1 p1 hs q1 => ?_)))
 have hfr := hfr.ext hs
 have rp0 := rp0.ext hs
 have rp1 := rp1.ext hs
 refine EL_pur (v := .int .i64 (0)) (P_assign rfl) .plain rfl ?_
 refine EL_nil (thn_n (E_joinC h (fun (s : Unit) e w => ∃ (g : Gh) , Fr gI wI g w ∧ e 2 = .int .i64 (x2)) (fun X6 k6 z1 h => ?_) ?_))
 ·refine E_seq (E_region (EL_do .plain rfl (D_load (g := g1) Try.isAgg28 Try.sizeOf28 rfl q1 fun v7 r7 => ?_)))
  refine EL_pur (v := up1) (P_move rfl) .plain rfl ?_
  obtain ⟨y9, d2, h⟩ := bsome h
  refine EL_do .plain rfl (D_call (g := g1) (vs := [v7, up1]) en18 (.cons rfl (.cons rfl .nil)) (wk18 r7 rp1 d2) fun g8 w8_ v8 hs hr => ?_)
  have hfr := hfr.ext hs
  have rp0 := rp0.ext hs
  have rp1 := rp1.ext hs
  have q1 := q1.ext hs
  have r7 := r7.ext hs
  subst hr
  refine EL_pur (v := .int .i64 (y9)) (P_assign rfl) .plain rfl ?_
  refine EL_nil (thn_n (E_seq (E_region (EL_pur (v := .int .i64 (y9)) (P_move rfl) .plain rfl ?_))))
  refine EL_pur (v := .bool ((y9 != (0 : Int)))) (P_int rfl rfl rfl) .plain rfl ?_
  refine EL_nil (thn_n ?_)
  rcases csome h with ⟨n0, h⟩ | ⟨n0, h⟩
  ·refine E_cond_true (Eq.trans (show ev _ _ = .bool ((y9 != (0 : Int))) from rfl) (congrArg Value.bool n0)) ?_
   refine E_seq (E_region (EL_pur (v := .int .i64 (y9)) (P_move rfl) .plain rfl ?_))
   refine EL_pur (v := .int .i64 (y9)) (P_assign rfl) .plain rfl ?_
   refine EL_nil (thn_n (E_ret (thn_r ?_)))
   obtain rfl := Option.some.inj h
   exact end1 rfl rfl (show _ = .int .i64 (y9) from rfl) ⟨_, hfr, rfl⟩
  ·refine E_cond_false (Eq.trans (show ev _ _ = .bool ((y9 != (0 : Int))) from rfl) (congrArg Value.bool n0)) ?_
   exact E_skip (thn_n (z1 () _ _ ⟨g8, hfr, rfl⟩ h))
 ·rintro _ q2 d3 ⟨i2, hfr, y0⟩ h
  refine E_joinC h (fun (s : Unit) e w => ∃ (g : Gh) , Fr gI wI g w) (fun X16 i1 j1 h => ?_) ?_
  ·refine E_seq (E_region (EL_pur (v := .int .i64 (x2)) (P_move y0) .plain rfl ?_))
   refine EL_do .plain rfl (D_buildSlice (g := i2) 3015 (xs := ([x2] : List Int)) (vs := [.int .i64 (x2)]) Try.underlying22 Try.sizeOf3 Try.zeroValue3 rfl rfl (.cons rfl .nil) (RVs.cons (RV_int.2 rfl) RVs.nil) rfl rfl fun j2 e3 m2 hs o17 u0 hxt hfl => ?_)
   have hfr := hfr.stp hs
   obtain ⟨j0, m1, h⟩ := bsome h
   refine EL_do .plain rfl (D_call (g := j2) (vs := [.int .i64 (1), .int .i64 (120), m2]) en62 (.cons rfl (.cons rfl (.cons rfl .nil))) (wk62 u0 m1) fun p2 s2 i3 hs hr => ?_)
   have hfr := hfr.ext hs
   have u0 := u0.ext hs
   have o17 := o17.ext hs
   subst hr
   refine EL_pur (v := .bool (!j0)) (P_not rfl) .plain rfl ?_
   refine EL_nil (thn_n ?_)
   rcases csome h with ⟨o0, h⟩ | ⟨o0, h⟩
   ·refine E_cond_true (Eq.trans (show ev _ _ = .bool ((!j0)) from rfl) (congrArg Value.bool o0)) ?_
    refine E_seq (E_region (EL_pur (v := .int .i64 (3)) (P_assign rfl) .plain rfl ?_))
    refine EL_nil (thn_n (E_ret (thn_r ?_)))
    obtain rfl := Option.some.inj h
    exact end1 rfl rfl (show _ = .int .i64 (3) from rfl) ⟨_, hfr, rfl⟩
   ·refine E_cond_false (Eq.trans (show ev _ _ = .bool ((!j0)) from rfl) (congrArg Value.bool o0)) ?_
    exact E_skip (thn_n (j1 () _ _ ⟨p2, hfr⟩ h))
  ·rintro _ z2 j3 ⟨m3, hfr⟩ h
   refine E_seq (E_region (EL_pur (v := .int .i64 (0)) (P_assign rfl) .plain rfl ?_))
   refine EL_nil (thn_n (E_ret ?_))
   obtain rfl := Option.some.inj h
   exact end1 rfl rfl (show _ = .int .i64 (0) from rfl) ⟨_, hfr, rfl⟩
theorem v77_0 {iO : Nat} {gI : Gh} {wI : World} {x0 : List FaultDamage} {up0 : Value} (rp0 : RV gI.m wI x0 up0) {r : List FaultDamage} (h : f77 x0 = some r) : FnG Try.prog 77 #[up0] gI wI (fun g w v => OM iO g w 62 r v) := by
 unfold f77 at h
 refine fnG_of_E Try.func77 rfl (Nat.le_of_ble_eq_true rfl) fun g0 hm hfr => ?_
 have rp0 : RV g0.m wI x0 up0 := hm ▸ rp0
 show E _ 8 none _ _ _ _ _
 refine E_seq (E_region (EL_pur (v := .slice none 0 0) (P_assign rfl) .plain rfl (EL_nil (thn_n ?_))))
 refine E_seq (E_seq (E_region (EL_pur (v := up0) (P_move rfl) .plain rfl ?_)))
 obtain ⟨a, c, hv, hc, hrow⟩ := RV_list rp0
 refine EL_pur (v := .bool a.isNone) (P_slnil Try.underlying29 (show ev _ _ = _ from hv)) .plain rfl (EL_nil (thn_n ?_))
 cases a with
 | none =>
  have hx : x0 = [] := by
   cases x0 with
   | nil => rfl
   | cons y ys => obtain ⟨b, off, hb, _⟩ := hrow (by simp); cases hb
  subst hx
  have hr : r = [] := by unfold apnd at h; split at h <;> simp at h; exact h
  subst hr
  refine E_cond_true rfl (E_seq (E_region ?_))
  refine EL_pur (v := .slice none 0 0) (P_assign rfl) .plain rfl (EL_nil (thn_n ?_))
  obtain ⟨gh, hxh, homh⟩ := OM.handn (i := iO) (t := 62) (α := FaultDamage) hfr; exact E_ret (thn_r (end1 rfl rfl (show _ = .slice none 0 0 from rfl) ⟨gh, hxh, homh⟩))
 | some a =>
  refine E_cond_false rfl (E_skip (thn_n ?_))
  refine E_seq (E_region (EL_do .plain rfl (D_buildSlice (g := g0) 1 (xs := ([] : List FaultDamage)) (vs := []) Try.underlying29 Try.sizeOf62 Try.zeroValue62 rfl rfl .nil RVs.nil rfl rfl fun g1 w1 v1 hs o1 r1 hxt hfl => ?_)))
  have hfr := hfr.stp hs
  have rp0 := rp0.stp hs
  refine EL_pur (v := up0) (P_move rfl) .plain rfl ?_
  refine EL_do .plain rfl (D_append (g := g1) (i := 1) Try.underlying29 info_62 rfl rfl o1 r1 rfl rp0 h fun g2 w2 v2 hs o2 r2 _ => ?_)
  have hfr := hfr.stp hs
  refine EL_pur (v := v2) (P_assign rfl) .plain rfl (EL_nil (thn_n ?_))
  obtain ⟨gh, hxh, homh⟩ := OM.hand (i := iO) plain_FaultDamage hfr o2 r2; exact E_ret (end1 rfl rfl (show _ = v2 from rfl) ⟨gh, hxh, homh⟩)
theorem v82_0 {iO : Nat} {gI : Gh} {wI : World} {x0 : TieHarness} {x1 : Design} {up0 : Value} (rp0 : RV gI.m wI x0 up0) {up1 : Value} (rp1 : RV gI.m wI x1 up1) {r : (List Str) × Int} (h : f82 x0 x1 = some r) : FnG Try.prog 82 #[up0, up1] gI wI (fun g w v => ∃ y0 y1, v = .tuple #[y0, y1] ∧ OM iO g w 9 (r.1) y0 ∧ y1 = .int .i64 (r.2)) := by
 unfold f82 at h
 refine fnG_of_E Try.func82 rfl (Nat.le_of_ble_eq_true rfl) fun g0 hm hfr => ?_
 have rp0 : RV g0.m wI x0 up0 := hm ▸ rp0
 have rp1 : RV g0.m wI x1 up1 := hm ▸ rp1
 show E _ 43 none _ _ _ _ _
 refine E_seq (E_region (EL_do .plain rfl (D_box (g := g0) rfl rp0 fun g1 w1 p1 hs q1 => ?_)))
 have hfr := hfr.ext hs
 have rp0 := rp0.ext hs
 have rp1 := rp1.ext hs
 refine EL_do .plain rfl (D_box (g := g1) rfl rp1 fun g2 w2 p2 hs q2 => ?_)
 have hfr := hfr.ext hs
 have rp0 := rp0.ext hs
 have rp1 := rp1.ext hs
 have q1 := q1.ext hs
 refine EL_pur (v := .slice none 0 0) (P_assign rfl) .plain rfl ?_
 refine EL_pur (v := .int .i64 (0)) (P_assign rfl) .plain rfl ?_
 refine EL_nil (thn_n (E_joinC h (fun (s : (List Str)) e w => ∃ (g : Gh) (v4 : Value), Fr gI wI g w ∧ e 2 = p1 ∧ PT g.m w (x0 : TieHarness) p1 ∧ e 3 = p2 ∧ PT g.m w (x1 : Design) p2 ∧ e 4 = v4 ∧ RV g.m w (s : List Str) v4 ∧ OS 1004 g w 9 (s : List Str) v4) (fun X7 k7 s6 h => ?_) ?_))
 ·refine E_seq (E_region (EL_do .plain rfl (D_load (g := g2) Try.isAgg24 Try.sizeOf24 rfl q1 fun v8 r8 => ?_)))
  obtain ⟨d2, l6, h⟩ := bsome h
  refine EL_do .plain rfl (D_call (g := g2) (vs := [v8]) en73 (.cons rfl .nil) (wk73 r8 l6) fun g9 w9_ v9 hs hr => ?_)
  have hfr := hfr.ext hs
  have rp0 := rp0.ext hs
  have rp1 := rp1.ext hs
  have q1 := q1.ext hs
  have q2 := q2.ext hs
  have r8 := r8.ext hs
  subst hr
  refine EL_pur (v := .int .i64 (d2)) (P_assign rfl) .plain rfl ?_
  refine EL_nil (thn_n (E_seq (E_region (EL_pur (v := .int .i64 (d2)) (P_move rfl) .plain rfl ?_))))
  refine EL_pur (v := .bool ((d2 != (0 : Int)))) (P_int rfl rfl rfl) .plain rfl ?_
  refine EL_nil (thn_n ?_)
  rcases csome h with ⟨r3, h⟩ | ⟨r3, h⟩
  ·refine E_cond_true (Eq.trans (show ev _ _ = .bool ((d2 != (0 : Int))) from rfl) (congrArg Value.bool r3)) ?_
   refine E_seq (E_region (EL_pur (v := .int .i64 (d2)) (P_move rfl) .plain rfl ?_))
   refine EL_pur (v := .slice none 0 0) (P_assign rfl) .plain rfl ?_
   refine EL_pur (v := .int .i64 (d2)) (P_assign rfl) .plain rfl ?_
   refine EL_nil (thn_n (E_ret (thn_r ?_)))
   obtain rfl := Option.some.inj h
   obtain ⟨gh, hxh, homh⟩ := OM.handn (i := iO) (t := 9) (α := Str) hfr
   exact end2 rfl rfl (show _ = .slice none 0 0 from rfl) (show _ = .int .i64 (d2) from rfl) ⟨gh, hxh, _, _, rfl, homh, rfl⟩
  ·refine E_cond_false (Eq.trans (show ev _ _ = .bool ((d2 != (0 : Int))) from rfl) (congrArg Value.bool r3)) ?_
   exact E_skip (thn_n (s6 ([]) _ _ ⟨g9, (.slice none 0 0), hfr, rfl, q1, rfl, q2, rfl, RV_nil, OS.nil⟩ h))
 ·rintro c5 l7 s7 ⟨c6, d5, hfr, c4, m1, z2, i1, e5, d3, e3⟩ h
  refine E_joinC h (fun (s : (List Str)) e w => ∃ (g : Gh) (v4 : Value), Fr gI wI g w ∧ e 2 = p1 ∧ PT g.m w (x0 : TieHarness) p1 ∧ e 3 = p2 ∧ PT g.m w (x1 : Design) p2 ∧ e 4 = v4 ∧ RV g.m w (s : List Str) v4 ∧ OS 1004 g w 9 (s : List Str) v4) (fun X22 t7 m6 h => ?_) ?_
  ·refine E_seq (E_region (EL_do .plain rfl (D_load (g := c6) Try.isAgg26 Try.sizeOf26 z2 i1 fun t6 n4 => ?_)))
   obtain ⟨z1, n6, h⟩ := bsome h
   refine EL_do .plain rfl (D_call (g := c6) (vs := [t6]) en74 (.cons rfl .nil) (wk74 n4 n6) fun o4 m7 u7 hs hr => ?_)
   have hfr := hfr.ext hs
   have m1 := m1.ext hs
   have i1 := i1.ext hs
   have d3 := d3.ext hs
   have e3 := e3.ext hs
   have n4 := n4.ext hs
   subst hr
   refine EL_pur (v := .int .i64 (z1)) (P_assign rfl) .plain rfl ?_
   refine EL_nil (thn_n (E_block ?_))
   refine E_seq (E_region (EL_pur (v := .int .i64 (z1)) (P_move rfl) .plain rfl ?_))
   refine EL_pur (v := .bool ((z1 != (0 : Int)))) (P_int rfl rfl rfl) .plain rfl ?_
   refine EL_pur (v := .bool ((z1 != (0 : Int)))) (P_assign rfl) .plain rfl ?_
   refine EL_nil (thn_n ?_)
   rcases csome h with ⟨s3, h⟩ | ⟨s3, h⟩
   ·refine E_cond_true (Eq.trans (show ev _ _ = .bool ((z1 != (0 : Int))) from rfl) (congrArg Value.bool s3)) ?_
    refine E_seq (E_region (EL_pur (v := .int .i64 (z1)) (P_move rfl) .plain rfl ?_))
    refine EL_pur (v := .slice none 0 0) (P_assign rfl) .plain rfl ?_
    refine EL_pur (v := .int .i64 (z1)) (P_assign rfl) .plain rfl ?_
    refine EL_nil (thn_n (E_ret (blk_r ?_)))
    refine thn_r ?_
    obtain rfl := Option.some.inj h
    obtain ⟨gh, hxh, homh⟩ := OM.handn (i := iO) (t := 9) (α := Str) hfr
    exact end2 rfl rfl (show _ = .slice none 0 0 from rfl) (show _ = .int .i64 (z1) from rfl) ⟨gh, hxh, _, _, rfl, homh, rfl⟩
   ·refine E_cond_false (Eq.trans (show ev _ _ = .bool ((z1 != (0 : Int))) from rfl) (congrArg Value.bool s3)) ?_
    refine E_seq (E_region (EL_pur (v := fPtr p2 0) (P_fieldAddr at_26_0 z2 (PT.ptr i1)) .plain rfl ?_))
    have u6 := PT_field (part_Design_0).1 i1
    refine EL_do .plain rfl (D_load (g := o4) Try.isAgg3 Try.sizeOf3 rfl u6 fun v7 v6 => ?_)
    obtain rfl := RV_int.1 v6
    refine EL_pur (v := fPtr p1 0) (P_fieldAddr at_24_0 c4 (PT.ptr m1)) .plain rfl ?_
    have x6 := PT_field (part_TieHarness_0).1 m1
    refine EL_do .plain rfl (D_load (g := o4) Try.isAgg3 Try.sizeOf3 rfl x6 fun x7 y6 => ?_)
    obtain rfl := RV_int.1 y6
    refine EL_pur (v := .bool (((x1).Hooks != (x0).Hooks))) (P_int rfl rfl rfl) .plain rfl ?_
    refine EL_pur (v := .bool (((x1).Hooks != (x0).Hooks))) (P_assign rfl) .plain rfl ?_
    refine EL_nil (thn_n ?_)
    rcases csome h with ⟨u3, h⟩ | ⟨u3, h⟩
    ·refine E_cond_true (Eq.trans (show ev _ _ = .bool (((x1).Hooks != (x0).Hooks)) from rfl) (congrArg Value.bool u3)) ?_
     refine E_seq (E_region (EL_pur (v := .slice none 0 0) (P_assign rfl) .plain rfl ?_))
     refine EL_pur (v := .int .i64 (4)) (P_assign rfl) .plain rfl ?_
     refine EL_nil (thn_n (E_ret (blk_r ?_)))
     refine thn_r ?_
     obtain rfl := Option.some.inj h
     obtain ⟨gh, hxh, homh⟩ := OM.handn (i := iO) (t := 9) (α := Str) hfr
     exact end2 rfl rfl (show _ = .slice none 0 0 from rfl) (show _ = .int .i64 (4) from rfl) ⟨gh, hxh, _, _, rfl, homh, rfl⟩
    ·refine E_cond_false (Eq.trans (show ev _ _ = .bool (((x1).Hooks != (x0).Hooks)) from rfl) (congrArg Value.bool u3)) ?_
     exact E_skip (blk_n (thn_n (m6 (c5) _ _ ⟨o4, (d5), hfr, c4, m1, z2, i1, e5, d3, e3⟩ h)))
  ·rintro i7 n7 y7 ⟨d6, i5, hfr, j5, l5, m5, d4, n5, o5, p5⟩ h
   obtain ⟨e4, hx, h⟩ := bsome h
   refine E_join (fun e w => ∃ (g : Gh) (v4 : Value), Fr gI wI g w ∧ e 4 = v4 ∧ RV g.m w (e4 : List Str) v4 ∧ OS 1004 g w 9 (e4 : List Str) v4) (fun Q' hQ => ?_) (fun o7 z7 hR => ?_)
   ·replace h := hx
    clear hx
    refine E_seq (E_region (EL_pur (v := fPtr p2 1) (P_fieldAddr at_26_1 m5 (PT.ptr d4)) .plain rfl ?_))
    have z6 := PT_field (part_Design_1).1 d4
    refine EL_do .plain rfl (D_load (g := d6) Try.isAgg22 Try.sizeOf22 rfl z6 fun m3 e6 => ?_)
    refine EL_pur (v := .int .i64 (((x1).Rows).length : Int)) (P_len Try.underlying22 rfl e6) .plain rfl ?_
    refine EL_pur (v := .int .i64 (0)) (P_move rfl) .plain rfl ?_
    refine EL_nil (thn_n (E_block ?_))
    refine E_lp h (fun (s : (List Str) × Int) e w => ∃ (g : Gh) (v4 : Value), Fr gI wI g w ∧ e 2 = p1 ∧ PT g.m w (x0 : TieHarness) p1 ∧ e 4 = v4 ∧ RV g.m w (s.1 : List Str) v4 ∧ OS 1004 g w 9 (s.1 : List Str) v4 ∧ e 28 = m3 ∧ RV g.m w ((x1).Rows : List Int) m3 ∧ e 29 = .int .i64 ((((x1).Rows).length : Int)) ∧ e 30 = .int .i64 (s.2)) ⟨d6, (i5), hfr, j5, l5, n5, o5, p5, rfl, e6, rfl, rfl⟩ (fun X61 a8 o6 => ?_)
    rintro ⟨j7, n0⟩ p7 b8 ⟨o3, i4, hfr, j4, o0, m4, u0, j1, p3, j0, q3, m2⟩ h
    refine E_seq (E_region (EL_pur (v := .bool ((decide (n0 < (((x1).Rows).length : Int))))) (P_int m2 q3 rfl) .plain rfl ?_))
    refine EL_nil (thn_n (E_seq ?_))
    rcases csome h with ⟨z3, h⟩ | ⟨z3, h⟩
    ·refine E_cond_true (Eq.trans (show ev _ _ = .bool ((decide (n0 < (((x1).Rows).length : Int)))) from rfl) (congrArg Value.bool z3)) ?_
     refine E_skip (thn_n ?_)
     obtain ⟨i3, hx, h⟩ := bsome h
     refine E_join (fun e w => ∃ (g : Gh) (v4 : Value), Fr gI wI g w ∧ e 2 = p1 ∧ PT g.m w (x0 : TieHarness) p1 ∧ e 4 = v4 ∧ RV g.m w (i3 : List Str) v4 ∧ OS 1004 g w 9 (i3 : List Str) v4 ∧ e 28 = m3 ∧ RV g.m w ((x1).Rows : List Int) m3 ∧ e 29 = .int .i64 ((((x1).Rows).length : Int)) ∧ e 30 = .int .i64 (n0)) (fun Q' hQ => ?_) (fun q7 c8 hR => ?_)
     ·replace h := hx
      clear hx
      refine E_block ?_
      refine E_seq (E_region ?_)
      obtain ⟨p4, q4, h⟩ := bsome h
      refine EL_pur (v := ePtr m3 n0 1) (P_indexAddr (α := Int) Try.underlying22 Try.sizeOf3 p3 j0 m2 q4) .plain rfl ?_
      have s2 := PT_idx j0 q4
      refine EL_do .plain rfl (D_load (g := o3) Try.isAgg3 Try.sizeOf3 rfl s2 fun d8 a7 => ?_)
      obtain rfl := RV_int.1 a7
      refine EL_pur (v := .int .i64 (p4)) (P_assign rfl) .plain rfl ?_
      refine EL_nil (thn_n (E_region (EL_pur (v := i4) (P_move m4) .plain rfl ?_)))
      refine EL_do .plain rfl (D_load (g := o3) Try.isAgg24 Try.sizeOf24 j4 o0 fun r4 i2 => ?_)
      have j2 : RV o3.m _ (⟨x0⟩ : TieTieHarness) (.agg (setCh [[.int .i64 0, .slice none 0 0]] [(0, r4)]).flatten.toArray) := RV_build rfl (rep_last (RV.cells i2))
      generalize p6 : (Value.agg (setCh [[.int .i64 0, .slice none 0 0]] [(0, r4)]).flatten.toArray) = i6 at j2
      refine EL_pur (v := i6) (p6 ▸ P_build (vs := [(0, r4)]) [[.int .i64 0, .slice none 0 0]] lay_145 rfl rfl (.cons rfl .nil) ⟨⟨_, rfl, cells_size i2⟩, trivial⟩) .plain rfl ?_
      refine EL_pur (v := .int .i64 (p4)) (P_move rfl) .plain rfl ?_
      obtain ⟨j6, q6, h⟩ := bsome h
      refine EL_do .plain rfl (D_call (g := o3) (vs := [i6, .int .i64 (p4)]) en102 (.cons rfl (.cons rfl .nil)) (wk102 j2 q6) fun b7 r7 e8 hs hr => ?_)
      have hfr := hfr.ext hs
      have o0 := o0.ext hs
      have u0 := u0.ext hs
      have j1 := j1.ext hs
      have j0 := j0.ext hs
      have s2 := s2.ext hs
      have i2 := i2.ext hs
      have j2 := j2.ext hs
      subst hr
      refine EL_do .plain rfl (D_buildSlice (g := b7) 3039 (xs := ([j6] : List Str)) (vs := [Str.v (j6)]) Try.underlying36 Try.sizeOf9 Try.zeroValue9 rfl rfl (.cons rfl .nil) (RVs.cons (RV_str.2 rfl) RVs.nil) rfl rfl fun c7 g8 i8 hs o81 s4 hxt hfl => ?_)
      have hfr := hfr.stp hs
      have o0 := o0.stp hs
      have u0 := u0.stp hs
      have j1 := j1.stp hs rfl
      have j0 := j0.stp hs
      have s2 := s2.stp hs
      have i2 := i2.stp hs
      have j2 := j2.stp hs
      obtain ⟨j8, r6, h⟩ := bsome h
      refine EL_do .plain rfl (D_append (g := c7) (i := 1004) Try.underlying36 info_9 rfl rfl j1 u0 rfl s4 r6 fun d7 k8 k6 hs o82 e7 _ => ?_)
      have hfr := hfr.stp hs
      have o0 := o0.stp hs
      have u0 := u0.stp hs
      have j0 := j0.stp hs
      have s2 := s2.stp hs
      have i2 := i2.stp hs
      have j2 := j2.stp hs
      have s4 := s4.stp hs
      have o81 := o81.stp hs rfl
      refine EL_pur (v := k6) (P_assign rfl) .plain rfl ?_
      refine EL_nil (blk_n ?_)
      obtain rfl := Option.some.inj h
      exact hQ _ _ ⟨d7, (k6), hfr, j4, o0, rfl, e7, o82, p3, j0, q3, m2⟩
     ·clear hx
      obtain ⟨g7, q5, hfr, r5, t5, u5, x5, y5, u4, x4, z4, b5⟩ := hR
      refine E_region (EL_pur (v := .int .i64 ((w64 (n0 + (1 : Int))))) (P_int b5 rfl rfl) .plain rfl ?_)
      refine EL_pur (v := .int .i64 ((w64 (n0 + (1 : Int))))) (P_move rfl) .plain rfl ?_
      exact EL_nil (thn_n (o6 (i3, (w64 (n0 + (1 : Int)))) _ _ ⟨g7, (q5), hfr, r5, t5, u5, x5, y5, u4, x4, z4, rfl⟩ h))
    ·refine E_cond_false (Eq.trans (show ev _ _ = .bool ((decide (n0 < (((x1).Rows).length : Int)))) from rfl) (congrArg Value.bool z3)) ?_
     refine E_exit ?_
     refine thn_e ?_
     refine thn_e ?_
     refine blk_hit ?_
     obtain rfl := Option.some.inj h
     exact hQ _ _ ⟨o3, (i4), hfr, m4, u0, j1⟩
   ·clear hx
    obtain ⟨l8, j3, hfr, z5, a6, b6⟩ := hR
    refine E_seq (E_region (EL_pur (v := j3) (P_move z5) .plain rfl ?_))
    refine EL_pur (v := j3) (P_assign rfl) .plain rfl ?_
    refine EL_pur (v := .int .i64 (0)) (P_assign rfl) .plain rfl ?_
    refine EL_nil (thn_n (E_ret ?_))
    obtain rfl := Option.some.inj h
    obtain ⟨gh, hxh, homh⟩ := OM.hand (i := iO) plain_str hfr b6 a6
    exact end2 rfl rfl (show _ = j3 from rfl) (show _ = .int .i64 (0) from rfl) ⟨gh, hxh, _, _, rfl, homh, rfl⟩
/-- (griffe/fault.loom).round -/
def f55 (x0 : FaultFaultLoom) (x1 : List FaultDamage) : Option ((List Str)) :=
 (f76 ((((x0).FaultLoom).Design).Rows)).bind fun y7 =>
 (f77 x1).bind fun c9 =>
 (f78 c9 ((fun a0 a1 => f79 a0 a1))).bind fun d3 =>
 Option.bind (α := (List Int) × (List (Int × Bool))) (
  lp (σ := (List Int) × (List (Int × Bool)) × Int) (fun d9 (m5, n5, o0) =>
   bif (decide (o0 < ((d3).length : Int))) then
    Option.bind (α := (List Int) × (List (Int × Bool))) (
     (idx d3 o0).bind fun j7 =>
     (fchg ((j7).Kind) x0 j7 m5 n5).bind fun l7 =>
     some (l7.1, l7.2)
     ) fun (i4, j4) =>
    d9 (i4, j4, (w64 (o0 + (1 : Int))))
   else
    some (m5, n5)
   ) big (y7, ([] : List (Int × Bool)), (0 : Int))
  ) fun (m4, z2) =>
 (f82 (((x0).FaultLoom).Harness) ((⟨(((x0).FaultLoom).Design).Hooks, m4⟩ : Design))).bind fun d2 =>
 Option.bind (α := (List Str)) (
  lp (σ := (List Str) × Int) (fun m7 (m1, j0) =>
   bif (decide (j0 < ((d2.1).length : Int))) then
    Option.bind (α := (List Str)) (
     (idx m1 j0).bind fun n4 =>
     Option.bind (α := (List UInt8)) (
      lp (σ := (List UInt8) × (List (Int × Bool))) (fun k156 (i2, c4) =>
       bif c4.isEmpty then
        some (i2)
       else pickAll c4 fun e3 rm158 =>
        (idx i2 e3.1).bind fun j9 =>
        k156 ((List.set i2 (Int.toNat e3.1) ((46 : UInt8))), rm158)
       ) big ((n4).b, z2)
      ) fun j3 =>
     (idx m1 j0).bind fun k9 =>
     some ((List.set m1 (Int.toNat j0) ((⟨j3⟩ : Str))))
     ) fun s3 =>
    m7 (s3, (w64 (j0 + (1 : Int))))
   else
    some (m1)
   ) big (d2.1, (0 : Int))
  ) fun o4 =>
 some (o4)
theorem en55 : Enters Try.prog 55 := enters_of Try.func55 (by kernel_rfl) rfl
theorem wk55 {gI : Gh} {wI : World} {x0 : FaultFaultLoom} {x1 : List FaultDamage} {up0 : Value} (rp0 : RV gI.m wI x0 up0) {up1 : Value} (rp1 : RV gI.m wI x1 up1) {r : (List Str)} (h : f55 x0 x1 = some r) : Fn Try.prog 55 #[up0, up1] gI wI (fun m w v => RV m w (r) v) := by
 unfold f55 at h
 refine fn_of_E Try.func55 rfl (Nat.le_of_ble_eq_true rfl) fun g0 hm hfr => ?_
 have rp0 : RV g0.m wI x0 up0 := hm ▸ rp0
 have rp1 : RV g0.m wI x1 up1 := hm ▸ rp1
 show E _ 79 none _ _ _ _ _
 refine E_seq (E_region (EL_do .plain rfl (D_box (g := g0) rfl rp0 fun g1 w1 p1 hs q1 => ?_)))
 have hfr := hfr.ext hs
 have rp0 := rp0.ext hs
 have rp1 := rp1.ext hs
 refine EL_pur (v := .slice none 0 0) (P_assign rfl) .plain rfl ?_
 refine EL_nil (thn_n (E_seq (E_region (EL_pur (v := fPtr p1 0) (P_fieldAddr at_98_0 rfl (PT.ptr q1)) .plain rfl ?_))))
 have q2 := PT_field (part_FaultFaultLoom_0).1 q1
 refine EL_pur (v := fPtr (fPtr p1 0) 2) (P_fieldAddr at_28_1 rfl (PT.ptr q2)) .plain rfl ?_
 have q3 := PT_field (part_FaultLoom_1).1 q2
 refine EL_pur (v := fPtr (fPtr (fPtr p1 0) 2) 1) (P_fieldAddr at_26_1 rfl (PT.ptr q3)) .plain rfl ?_
 have q4 := PT_field (part_Design_1).1 q3
 refine EL_do .plain rfl (D_load (g := g1) Try.isAgg22 Try.sizeOf22 rfl q4 fun v5 r5 => ?_)
 obtain ⟨y7, eA, h⟩ := bsome h
 refine EL_do .plain rfl (D_callG (g := g1) (vs := [v5]) en76 (.cons rfl .nil) (v76_0 (iO := 9018) r5 eA) fun g6 w6_ v6 hs hr => ?_)
 have hfr := hfr.ext hs
 have rp0 := rp0.ext hs
 have rp1 := rp1.ext hs
 have q1 := q1.ext hs
 have q2 := q2.ext hs
 have q3 := q3.ext hs
 have q4 := q4.ext hs
 have r5 := r5.ext hs
 have hm6 := hr
 refine EL_do .plain rfl (D_makeMap (g := g6) (Value.int .i64) Bool 8019 fun g8 w8 v8 hs m8 => ?_)
 have hfr := hfr.stp hs
 have rp0 := rp0.stp hs
 have rp1 := rp1.stp hs
 have q1 := q1.stp hs
 have q2 := q2.stp hs
 have q3 := q3.stp hs
 have q4 := q4.stp hs
 have r5 := r5.stp hs
 have hm6 := hm6.stp hs rfl
 refine EL_pur (v := v6) (P_assign rfl) .plain rfl ?_
 refine EL_pur (v := v8) (P_assign rfl) .plain rfl ?_
 refine EL_nil (thn_n (E_seq (E_region (EL_pur (v := up1) (P_move rfl) .plain rfl ?_))))
 obtain ⟨c9, l9, h⟩ := bsome h
 refine EL_do .plain rfl (D_callG (g := g8) (vs := [up1]) en77 (.cons rfl .nil) (v77_0 (iO := 9021) rp1 l9) fun g9 w9_ v9 hs hr => ?_)
 have hfr := hfr.ext hs
 have rp0 := rp0.ext hs
 have rp1 := rp1.ext hs
 have q1 := q1.ext hs
 have q2 := q2.ext hs
 have q3 := q3.ext hs
 have q4 := q4.ext hs
 have r5 := r5.ext hs
 have hm6 := hm6.ext hs
 have m8 := m8.ext hs
 have hm9 := hr
 refine EL_pur (v := v9) (P_assign rfl) .plain rfl ?_
 refine EL_nil (thn_n (E_seq (E_region (EL_pur (v := v9) (P_move rfl) .plain rfl ?_))))
 obtain ⟨d3, m9, h⟩ := bsome h
 refine EL_do .plain rfl (D_callM (g := g9) (i := 9021) (vs := [v9, .func (.func 79) #[] #[]]) en78 (.cons rfl (.cons rfl .nil)) (wk78 hm9 ⟨79, #[], #[], rfl, en79, fun g' w' hch a0 a1 b0 b1 r hu0 hu1 hr => by exact Fn.mono (wk79 hu0 hu1  hr) fun _ _ _ h => RV_int.2 h⟩ m9) fun gA zA sB hs hr => ?_)
 obtain ⟨hrv, b11⟩ := hr
 subst hrv
 have hfr := hfr.stp hs
 have rp0 := rp0.stp hs
 have q1 := q1.stp hs
 have q2 := q2.stp hs
 have q3 := q3.stp hs
 have q4 := q4.stp hs
 have r5 := r5.stp hs
 have hm6 := hm6.stp hs rfl
 have m8 := m8.stp hs rfl
 have rp1 := rp1.stp hs
 refine EL_nil (thn_n (E_seq (E_region (EL_do .plain rfl (D_callG (g := gA) (vs := []) en81 .nil (wk81 (i := 8800)) fun iA tB s4 hs m13 => ?_)))))
 have hfr := hfr.ext hs
 have rp0 := rp0.ext hs
 have b11 := b11.ext hs
 have q1 := q1.ext hs
 have q2 := q2.ext hs
 have q3 := q3.ext hs
 have q4 := q4.ext hs
 have r5 := r5.ext hs
 have hm6 := hm6.ext hs
 have m8 := m8.ext hs
 have rp1 := rp1.ext hs
 refine EL_pur (v := s4) (P_assign rfl) .plain rfl ?_
 refine EL_nil (thn_n ?_)
 obtain ⟨⟨m4, z2⟩, hx, h⟩ := bsome h
 refine E_join (fun e w => ∃ (g : Gh) , Fr gI wI g w ∧ e 2 = p1 ∧ PT g.m w (x0 : FaultFaultLoom) p1 ∧ e 5 = v6 ∧ OM 9018 g w 3 (m4 : List Int) v6 ∧ e 6 = v8 ∧ MP (Value.int .i64) 8019 g w (z2 : List (Int × Bool)) v8) (fun Q' hQ => ?_) (fun aB n9 hR => ?_)
 ·replace h := hx
  clear hx
  refine E_seq (E_region (EL_pur (v := v9) (P_move rfl) .plain rfl ?_))
  refine EL_pur (v := .int .i64 ((d3).length : Int)) (P_lenM Try.underlying29 rfl b11) .plain rfl ?_
  refine EL_pur (v := .int .i64 (0)) (P_move rfl) .plain rfl ?_
  refine EL_nil (thn_n (E_block ?_))
  refine E_lp h (fun (s : (List Int) × (List (Int × Bool)) × Int) e w => ∃ (g : Gh) , Fr gI wI g w ∧ e 1 = v9 ∧ OM 9021 g w 62 (d3 : List FaultDamage) v9 ∧ e 2 = p1 ∧ PT g.m w (x0 : FaultFaultLoom) p1 ∧ e 5 = v6 ∧ OM 9018 g w 3 (s.1 : List Int) v6 ∧ e 6 = v8 ∧ MP (Value.int .i64) 8019 g w (s.2.1 : List (Int × Bool)) v8 ∧ e 7 = s4 ∧ MP (Value.int .i64) 8800 g w chgM s4 ∧ e 25 = v9 ∧ e 26 = .int .i64 (((d3).length : Int)) ∧ e 27 = .int .i64 (s.2.2)) ⟨iA, hfr, rfl, b11, rfl, q1, rfl, hm6, rfl, m8, rfl, m13, rfl, rfl, rfl⟩ (fun X40 d9 o9 => ?_)
  rintro ⟨m5, n5, o0⟩ bB uB ⟨n7, hfr, e8, u0, o5, y0, p5, m3, q5, o3, r6, i1, x5, y5, p4⟩ h
  refine E_seq (E_region (EL_pur (v := .bool ((decide (o0 < ((d3).length : Int))))) (P_int p4 y5 rfl) .plain rfl ?_))
  refine EL_nil (thn_n (E_seq ?_))
  rcases csome h with ⟨o6, h⟩ | ⟨o6, h⟩
  ·refine E_cond_true (Eq.trans (show ev _ _ = .bool ((decide (o0 < ((d3).length : Int)))) from rfl) (congrArg Value.bool o6)) ?_
   refine E_skip (thn_n ?_)
   obtain ⟨⟨i4, j4⟩, hx, h⟩ := bsome h
   refine E_join (fun e w => ∃ (g : Gh) , Fr gI wI g w ∧ e 1 = v9 ∧ OM 9021 g w 62 (d3 : List FaultDamage) v9 ∧ e 2 = p1 ∧ PT g.m w (x0 : FaultFaultLoom) p1 ∧ e 5 = v6 ∧ OM 9018 g w 3 (i4 : List Int) v6 ∧ e 6 = v8 ∧ MP (Value.int .i64) 8019 g w (j4 : List (Int × Bool)) v8 ∧ e 7 = s4 ∧ MP (Value.int .i64) 8800 g w chgM s4 ∧ e 25 = v9 ∧ e 26 = .int .i64 (((d3).length : Int)) ∧ e 27 = .int .i64 (o0)) (fun Q' hQ => ?_) (fun cB vB hR => ?_)
   ·replace h := hx
    clear hx
    refine E_block ?_
    refine E_seq (E_region ?_)
    obtain ⟨j7, o7, h⟩ := bsome h
    refine EL_pur (v := ePtr v9 o0 5) (P_indexAddrM (α := FaultDamage) Try.underlying29 Try.sizeOf62 x5 u0 p4 o7) .plain rfl ?_
    refine EL_do .plain rfl (D_loadM (g := n7) Try.isAgg62 Try.sizeOf62 rfl u0 o7 fun jA u3 => ?_)
    refine EL_do .plain rfl (D_allocOc (g := n7) 2009 (⟨0, 0, 0, 0, false⟩ : FaultDamage) Try.zeroValue62 (fun m w => ⟨_, (rep_two rep_int (rep_two rep_int (rep_two rep_int (rep_two rep_int rep_bool)))), rfl⟩) fun kA xB lA hs b56 cb => ?_)
    have hfr := hfr.stp hs
    have u0 := u0.stp hs rfl
    have y0 := y0.stp hs
    have m3 := m3.stp hs rfl
    have o3 := o3.stp hs rfl
    have i1 := i1.stp hs rfl
    have u3 := u3.stp hs
    clear cb
    refine EL_do .plain rfl (D_storeOc (g := kA) (v := jA) Try.sizeOf62 rfl b56 rfl u3 fun z5 yB hs b57 cb => ?_)
    clear cb
    have hfr := hfr.stp hs
    have u0 := u0.stp hs rfl
    have y0 := y0.stp hs
    have m3 := m3.stp hs rfl
    have o3 := o3.stp hs rfl
    have i1 := i1.stp hs rfl
    have u3 := u3.stp hs
    refine EL_nil (thn_n (E_region (EL_pur (v := s4) (P_move r6) .plain rfl ?_)))
    refine EL_pur (v := fPtr lA 0) (P_fieldAddr at_62_0 rfl (OB.ptr b57)) .plain rfl ?_
    refine EL_do .plain rfl (D_loadF (g := z5) part_FaultDamage_0.1 Try.isAgg60 Try.sizeOf60 rfl b57 fun zB mA => ?_)
    obtain rfl := RV_int.1 mA
    refine EL_do .plain rfl (D_lookup (g := z5) (z0 := fv0) Try.underlying130 key_60 Try.zeroValue133 (fun _ _ => RV_fv.2 rfl) rfl i1 rfl fun aC nA => ?_)
    have p9 := RV_fv.1 nA
    refine EL_do .plain rfl (D_load (g := z5) Try.isAgg98 Try.sizeOf98 o5 y0 fun bC a6 => ?_)
    refine EL_do .plain rfl (D_loadO (g := z5) Try.isAgg62 Try.sizeOf62 rfl b57 fun cC b6 => ?_)
    refine EL_pur (v := v6) (P_move p5) .plain rfl ?_
    refine EL_pur (v := v8) (P_move q5) .plain rfl ?_
    obtain ⟨l7, q9, h⟩ := bsome h
    refine EL_do .plain rfl (D_chg (g := z5) (i := 9018) (j := 8019) q9 (show _ = _ from p9) rfl rfl rfl rfl a6 b6 m3 o3 rfl rfl fun dC eC r9 dB iC hs hs2 mr63 mb63 => ?_)
    have hfr := hfr.stp hs
    have u0 := u0.stp hs rfl
    have y0 := y0.stp hs
    have i1 := i1.stp hs rfl
    have u3 := u3.stp hs
    have b57 := b57.stp hs rfl
    have a6 := a6.stp hs
    have b6 := b6.stp hs
    have hfr := hfr.stp hs2
    have u0 := u0.stp hs2 rfl
    have y0 := y0.stp hs2
    have i1 := i1.stp hs2 rfl
    have u3 := u3.stp hs2
    have b57 := b57.stp hs2 rfl
    have a6 := a6.stp hs2
    have b6 := b6.stp hs2
    refine EL_nil (blk_n ?_)
    obtain ⟨rfl, rfl⟩ := pairs2 h
    exact hQ _ _ ⟨r9, hfr, e8, u0, o5, y0, p5, mr63, q5, mb63, r6, i1, x5, y5, p4⟩
   ·clear hx
    obtain ⟨oA, hfr, i8, j8, k8, l8, n8, o8, p8, q8, r8, t8, p7, q7, r7⟩ := hR
    refine E_region (EL_pur (v := .int .i64 ((w64 (o0 + (1 : Int))))) (P_int r7 rfl rfl) .plain rfl ?_)
    refine EL_pur (v := .int .i64 ((w64 (o0 + (1 : Int))))) (P_move rfl) .plain rfl ?_
    exact EL_nil (thn_n (o9 (i4, j4, (w64 (o0 + (1 : Int)))) _ _ ⟨oA, hfr, i8, j8, k8, l8, n8, o8, p8, q8, r8, t8, p7, q7, rfl⟩ h))
  ·refine E_cond_false (Eq.trans (show ev _ _ = .bool ((decide (o0 < ((d3).length : Int)))) from rfl) (congrArg Value.bool o6)) ?_
   refine E_exit ?_
   refine thn_e ?_
   refine thn_e ?_
   refine blk_hit ?_
   obtain ⟨rfl, rfl⟩ := pairs2 h
   exact hQ _ _ ⟨n7, hfr, o5, y0, p5, m3, q5, o3⟩
 ·clear hx
  obtain ⟨e9, hfr, s6, z1, x8, y8, z8, z3⟩ := hR
  refine E_seq (E_region (EL_pur (v := fPtr p1 0) (P_fieldAddr at_98_0 s6 (PT.ptr z1)) .plain rfl ?_))
  have u4 := PT_field (part_FaultFaultLoom_0).1 z1
  refine EL_pur (v := fPtr (fPtr p1 0) 0) (P_fieldAddr at_28_0 rfl (PT.ptr u4)) .plain rfl ?_
  have c6 := PT_field (part_FaultLoom_0).1 u4
  refine EL_do .plain rfl (D_load (g := e9) Try.isAgg24 Try.sizeOf24 rfl c6 fun pA d6 => ?_)
  refine EL_pur (v := fPtr p1 0) (P_fieldAddr at_98_0 s6 (PT.ptr z1)) .plain rfl ?_
  have x4 := PT_field (part_FaultFaultLoom_0).1 z1
  refine EL_pur (v := fPtr (fPtr p1 0) 2) (P_fieldAddr at_28_1 rfl (PT.ptr x4)) .plain rfl ?_
  have z4 := PT_field (part_FaultLoom_1).1 x4
  refine EL_pur (v := fPtr (fPtr (fPtr p1 0) 2) 0) (P_fieldAddr at_26_0 rfl (PT.ptr z4)) .plain rfl ?_
  have e6 := PT_field (part_Design_0).1 z4
  refine EL_do .plain rfl (D_load (g := e9) Try.isAgg3 Try.sizeOf3 rfl e6 fun jC qA => ?_)
  obtain rfl := RV_int.1 qA
  refine EL_pur (v := v6) (P_move x8) .plain rfl ?_
  obtain ⟨gp75, hs, rp75⟩ := OM.pub y8
  have hfr := hfr.stp hs
  have z1 := z1.stp hs
  have z3 := z3.stp hs rfl
  have u4 := u4.stp hs
  have c6 := c6.stp hs
  have d6 := d6.stp hs
  have x4 := x4.stp hs
  have z4 := z4.stp hs
  have e6 := e6.stp hs
  have t6 : RV gp75.m _ (⟨(((x0).FaultLoom).Design).Hooks, m4⟩ : Design) (.agg (setCh [[.int .i64 0], [.slice none 0 0]] [(0, .int .i64 ((((x0).FaultLoom).Design).Hooks)), (1, v6)]).flatten.toArray) := RV_build rfl (rep_pair (rfl) (rep_last (RV.cells rp75)))
  generalize s9 : (Value.agg (setCh [[.int .i64 0], [.slice none 0 0]] [(0, .int .i64 ((((x0).FaultLoom).Design).Hooks)), (1, v6)]).flatten.toArray) = i9 at t6
  refine EL_pur (v := i9) (s9 ▸ P_build (vs := [(0, .int .i64 ((((x0).FaultLoom).Design).Hooks)), (1, v6)]) [[.int .i64 0], [.slice none 0 0]] lay_26 rfl rfl (.cons rfl (.cons rfl .nil)) ⟨⟨_, rfl, rfl⟩, ⟨⟨_, rfl, cells_size rp75⟩, trivial⟩⟩) .plain rfl ?_
  obtain ⟨d2, t9, h⟩ := bsome h
  refine EL_do .plain rfl (D_callG (g := gp75) (vs := [pA, i9]) en82 (.cons rfl (.cons rfl .nil)) (v82_0 (iO := 9051) d6 t6 t9) fun rA n9 kC hs hr => ?_)
  have hfr := hfr.ext hs
  have z1 := z1.ext hs
  have rp75 := rp75.ext hs
  have z3 := z3.ext hs
  have u4 := u4.ext hs
  have c6 := c6.ext hs
  have d6 := d6.ext hs
  have x4 := x4.ext hs
  have z4 := z4.ext hs
  have e6 := e6.ext hs
  have t6 := t6.ext hs
  obtain ⟨n0, sA, rfl, hm76, rfl⟩ := hr
  refine EL_pur (v := .tuple #[n0, .int .i64 (d2.2)]) (P_move rfl) .plain rfl ?_
  refine EL_pur (v := n0) (P_extract rfl rfl) .plain rfl ?_
  refine EL_pur (v := .int .i64 (d2.2)) (P_extract rfl rfl) .plain rfl ?_
  refine EL_pur (v := n0) (P_assign rfl) .plain rfl ?_
  refine EL_nil (thn_n ?_)
  obtain ⟨o4, hx, h⟩ := bsome h
  refine E_join (fun e w => ∃ (g : Gh) , Fr gI wI g w ∧ e 4 = n0 ∧ OM 9051 g w 9 (o4 : List Str) n0) (fun Q' hQ => ?_) (fun tA eB hR => ?_)
  ·replace h := hx
   clear hx
   refine E_seq (E_region (EL_pur (v := n0) (P_move rfl) .plain rfl ?_))
   refine EL_pur (v := .int .i64 ((d2.1).length : Int)) (P_lenM Try.underlying36 rfl hm76) .plain rfl ?_
   refine EL_pur (v := .int .i64 (0)) (P_move rfl) .plain rfl ?_
   refine EL_nil (thn_n (E_block ?_))
   refine E_lp h (fun (s : (List Str) × Int) e w => ∃ (g : Gh) , Fr gI wI g w ∧ e 4 = n0 ∧ OM 9051 g w 9 (s.1 : List Str) n0 ∧ e 6 = v8 ∧ MP (Value.int .i64) 8019 g w (z2 : List (Int × Bool)) v8 ∧ e 54 = n0 ∧ e 55 = .int .i64 (((d2.1).length : Int)) ∧ e 56 = .int .i64 (s.2)) ⟨rA, hfr, rfl, hm76, z8, z3, rfl, rfl, rfl⟩ (fun X122 m7 a9 => ?_)
   rintro ⟨m1, j0⟩ uA iB ⟨p6, hfr, i6, j1, j6, j2, b5, c5, p3⟩ h
   refine E_seq (E_region (EL_pur (v := .bool ((decide (j0 < ((d2.1).length : Int))))) (P_int p3 c5 rfl) .plain rfl ?_))
   refine EL_nil (thn_n (E_seq ?_))
   rcases csome h with ⟨t5, h⟩ | ⟨t5, h⟩
   ·refine E_cond_true (Eq.trans (show ev _ _ = .bool ((decide (j0 < ((d2.1).length : Int)))) from rfl) (congrArg Value.bool t5)) ?_
    refine E_skip (thn_n ?_)
    obtain ⟨s3, hx, h⟩ := bsome h
    refine E_join (fun e w => ∃ (g : Gh) , Fr gI wI g w ∧ e 4 = n0 ∧ OM 9051 g w 9 (s3 : List Str) n0 ∧ e 6 = v8 ∧ MP (Value.int .i64) 8019 g w (z2 : List (Int × Bool)) v8 ∧ e 54 = n0 ∧ e 55 = .int .i64 (((d2.1).length : Int)) ∧ e 56 = .int .i64 (j0)) (fun Q' hQ => ?_) (fun vA jB hR => ?_)
    ·replace h := hx
     clear hx
     refine E_block ?_
     refine E_seq (E_region (EL_pur (v := .int .i64 (j0)) (P_move p3) .plain rfl ?_))
     obtain ⟨n4, u6, h⟩ := bsome h
     refine EL_pur (v := ePtr n0 j0 1) (P_indexAddrM (α := Str) Try.underlying36 Try.sizeOf9 b5 j1 p3 u6) .plain rfl ?_
     refine EL_do .plain rfl (D_loadM (g := p6) Try.isAgg9 Try.sizeOf9 rfl j1 u6 fun kB u9 => ?_)
     obtain rfl := RV_str.1 u9
     refine EL_pur (v := .int .i64 (j0)) (P_assign rfl) .plain rfl ?_
     refine EL_pur (v := Str.v (n4)) (P_assign rfl) .plain rfl ?_
     refine EL_nil (thn_n (E_seq (E_region (EL_pur (v := Str.v (n4)) (P_move rfl) .plain rfl ?_))))
     refine EL_do .plain rfl (D_convSB (g := p6) (s := n4) 9062 Try.underlying9 Try.underlying80 Try.underlying5 rfl fun x9 lB i3 hs m147 => ?_)
     have hfr := hfr.stp hs
     have j1 := j1.stp hs rfl
     have j2 := j2.stp hs rfl
     refine EL_pur (v := i3) (P_assign rfl) .plain rfl ?_
     refine EL_nil (thn_n ?_)
     obtain ⟨j3, hx, h⟩ := bsome h
     refine E_join (fun e w => ∃ (g : Gh) , Fr gI wI g w ∧ e 4 = n0 ∧ OM 9051 g w 9 (m1 : List Str) n0 ∧ e 6 = v8 ∧ MP (Value.int .i64) 8019 g w (z2 : List (Int × Bool)) v8 ∧ e 10 = .int .i64 (j0) ∧ e 12 = i3 ∧ OM 9062 g w 5 (j3 : List UInt8) i3 ∧ e 54 = n0 ∧ e 55 = .int .i64 (((d2.1).length : Int)) ∧ e 56 = .int .i64 (j0)) (fun Q' hQ => ?_) (fun xA y9 hR => ?_)
     ·replace h := hx
      clear hx
      refine E_seq (E_region (EL_pur (v := v8) (P_move j6) .plain rfl ?_))
      refine EL_do .plain rfl (D_rangeM (g := x9) 7564 Try.underlying126 rfl j2 fun z9 mB s7 hs b155 => ?_)
      have hfr := hfr.stp hs
      have j1 := j1.stp hs rfl
      have j2 := j2.stp hs rfl
      have m147 := m147.stp hs rfl
      refine EL_nil (thn_n (E_block ?_))
      refine E_lp h (fun (s : (List UInt8) × (List (Int × Bool))) e w => ∃ (g : Gh) , Fr gI wI g w ∧ e 4 = n0 ∧ OM 9051 g w 9 (m1 : List Str) n0 ∧ e 6 = v8 ∧ MP (Value.int .i64) 8019 g w (z2 : List (Int × Bool)) v8 ∧ e 10 = .int .i64 (j0) ∧ e 12 = i3 ∧ OM 9062 g w 5 (s.1 : List UInt8) i3 ∧ e 54 = n0 ∧ e 55 = .int .i64 (((d2.1).length : Int)) ∧ e 56 = .int .i64 (j0) ∧ e 64 = s7 ∧ MI (Value.int .i64) 7564 8019 g w (s.2 : List (Int × Bool)) none s7) ⟨z9, hfr, i6, j1, j6, j2, rfl, rfl, m147, b5, c5, p3, rfl, b155.dropc⟩ (fun X156 k156 b9 => ?_)
      rintro ⟨i2, c4⟩ yA nB ⟨q6, hfr, k6, m2, l6, p2, d5, d4, s2, e5, i5, j5, r3, l5⟩ h
      refine E_seq (E_region ?_)
      rcases csome h with ⟨u5, h⟩ | ⟨u5, h⟩
      ·refine EL_do .plain rfl (D_nextM_f (g := q6) r3 l5 u5 ?_)
       refine EL_pur (v := .bool false) (P_extract rfl rfl) .plain rfl ?_
       refine EL_nil (thn_n (E_seq (E_cond_false (by rw [show ev _ _ = _ from rfl]; exact congrArg Value.bool rfl) ?_)))
       refine E_exit ?_
       refine thn_e ?_
       refine thn_e ?_
       refine blk_hit ?_
       obtain rfl := Option.some.inj h
       exact hQ _ _ ⟨q6, hfr, k6, m2, l6, p2, d5, d4, s2, e5, i5, j5⟩
      ·refine EL_do .plain rfl (D_nextM_t (g := q6) r3 l5 rfl u5 fun e3 rm158 u158 t7 oB hmem hs b158 ru158 => ?_)
       replace h := pickAll_h h _ hmem
       clear hmem
       obtain rfl := RV_bool.1 ru158
       have hfr := hfr.stp hs
       have m2 := m2.stp hs rfl
       have p2 := p2.stp hs rfl
       have s2 := s2.stp hs rfl
       refine EL_pur (v := .bool true) (P_extract rfl rfl) .plain rfl ?_
       refine EL_nil (thn_n (E_seq (E_cond_true (by rw [show ev _ _ = _ from rfl]; exact congrArg Value.bool rfl) ?_)))
       refine E_skip (thn_n (E_block ?_))
       refine E_seq (E_region (EL_do .plain rfl (D_entry (g := t7) r3 b158 fun pB aA => ?_)))
       obtain rfl := RV_bool.1 aA
       refine EL_pur (v := .int .i64 (e3.1)) (P_extract rfl rfl) .plain rfl ?_
       refine EL_pur (v := .int .i64 (e3.1)) (P_assign rfl) .plain rfl ?_
       refine EL_nil (thn_n (E_region (EL_pur (v := i3) (P_move d4) .plain rfl ?_)))
       refine EL_pur (v := .int .i64 (e3.1)) (P_move rfl) .plain rfl ?_
       obtain ⟨j9, x6, h⟩ := bsome h
       refine EL_pur (v := ePtr i3 e3.1 1) (P_indexAddrM (α := UInt8) Try.underlying80 Try.sizeOf5 rfl s2 rfl x6) .plain rfl ?_
       refine EL_do .plain rfl (D_storeM (g := t7) (α := UInt8) (a' := ((46 : UInt8))) Try.sizeOf5 rfl s2 x6 rfl (RV_u8.2 rfl) fun bA qB hs b161 => ?_)
       have hfr := hfr.stp hs
       have m2 := m2.stp hs rfl
       have p2 := p2.stp hs rfl
       have b158 := b158.stp hs rfl
       exact EL_nil (blk_n (thn_n (b9 ((List.set i2 (Int.toNat e3.1) ((46 : UInt8))), rm158) _ _ ⟨bA, hfr, k6, m2, l6, p2, d5, d4, b161, e5, i5, j5, r3, b158.dropc⟩ h)))
     ·clear hx
      obtain ⟨u7, hfr, m6, n6, v7, r4, z6, a7, e4, b7, c7, d7⟩ := hR
      refine E_region (EL_pur (v := n0) (P_move m6) .plain rfl ?_)
      refine EL_pur (v := .int .i64 (j0)) (P_move z6) .plain rfl ?_
      refine EL_pur (v := i3) (P_move a7) .plain rfl ?_
      refine EL_do .plain rfl (D_convBS (g := u7) Try.underlying80 Try.underlying9 Try.underlying5 rfl e4 ?_)
      obtain ⟨k9, y6, h⟩ := bsome h
      refine EL_pur (v := ePtr n0 j0 1) (P_indexAddrM (α := Str) Try.underlying36 Try.sizeOf9 rfl n6 rfl y6) .plain rfl ?_
      refine EL_do .plain rfl (D_storeM (g := u7) (α := Str) (a' := ((⟨j3⟩ : Str))) Try.sizeOf9 rfl n6 y6 rfl (RV_str.2 rfl) fun cA y9 hs b164 => ?_)
      have hfr := hfr.stp hs
      have r4 := r4.stp hs rfl
      have e4 := e4.stp hs rfl
      refine EL_nil (blk_n ?_)
      obtain rfl := Option.some.inj h
      exact hQ _ _ ⟨cA, hfr, m6, b164, v7, r4, b7, c7, d7⟩
    ·clear hx
     obtain ⟨dA, hfr, x7, z7, a8, b8, e7, g7, i7⟩ := hR
     refine E_region (EL_pur (v := .int .i64 ((w64 (j0 + (1 : Int))))) (P_int i7 rfl rfl) .plain rfl ?_)
     refine EL_pur (v := .int .i64 ((w64 (j0 + (1 : Int))))) (P_move rfl) .plain rfl ?_
     exact EL_nil (thn_n (a9 (s3, (w64 (j0 + (1 : Int)))) _ _ ⟨dA, hfr, x7, z7, a8, b8, e7, g7, rfl⟩ h))
   ·refine E_cond_false (Eq.trans (show ev _ _ = .bool ((decide (j0 < ((d2.1).length : Int)))) from rfl) (congrArg Value.bool t5)) ?_
    refine E_exit ?_
    refine thn_e ?_
    refine thn_e ?_
    refine blk_hit ?_
    obtain rfl := Option.some.inj h
    exact hQ _ _ ⟨p6, hfr, i6, j1⟩
  ·clear hx
   obtain ⟨rB, hfr, c8, d8⟩ := hR
   refine E_seq (E_region (EL_pur (v := n0) (P_move c8) .plain rfl ?_))
   refine EL_pur (v := n0) (P_assign rfl) .plain rfl ?_
   refine EL_nil (thn_n (E_ret ?_))
   obtain ⟨gp167, hs, rp167⟩ := OM.pub d8
   have hfr := hfr.stp hs
   obtain rfl := Option.some.inj h
   exact end1 rfl rfl (show _ = n0 from rfl) ⟨_, hfr, rp167⟩
/-- (griffe/fault.loom).showing -/
def f64 (x0 : FaultFaultLoom) (σ : Type) (cons : Cons σ (FaultDamage × (List Str))) (s0 : σ) : Option σ :=
 (f55 x0 ([])).bind fun y5 =>
 ((fun σ cons s => f90 x0 σ cons s) (Nat × σ) (guardC fun o3 m1 =>
  (f55 x0 (([m1] : List FaultDamage))).bind fun d4 =>
  Option.bind (α := σ × Bool) (
   (f71 d4 y5).bind fun j3 =>
   bif (!j3) then
    (cons o3 (m1, d4)).bind fun (p3, o4) =>
    some (o4, (!p3))
   else
    some (o3, false)
   ) fun (i2, j1) =>
  bif j1 then
   some (false, ((1 : Nat), (i2)))
  else
   some (true, ((0 : Nat), (i2)))
  ) (0, (s0))).bind fun (j2, q3) =>
 bif Nat.beq j2 0 then
  some q3
 else
  some q3
theorem en64 : Enters Try.prog 64 := enters_of Try.func64 (by kernel_rfl) rfl
theorem wk64 {σ : Type} {cons : Cons σ (FaultDamage × (List Str))} {s0 r : σ} {gI : Gh} {wI : World} {x0 : FaultFaultLoom} {up0 : Value} (rp0 : RV gI.m wI x0 up0) (h : f64 x0 σ cons s0 = some r) : IterC Try.prog (RA2 (α := FaultDamage) (β := (List Str))) 64 #[up0] #[] gI wI cons s0 r := by
 unfold f64 at h
 refine iterD_of_E Try.func64 rfl (Nat.le_of_ble_eq_true rfl) fun l B J g0 hm hAb hRo hfr => ?_
 have hmk : MkF g0 wI [] := MkF.start
 have rp0 : RV g0.m wI x0 up0 := hm ▸ rp0
 show E _ 27 none _ _ (envAt #[up0, .func (.yield l) #[] #[]]) _ _
 refine E_seq (E_region (EL_do .plain rfl (D_box (g := g0) rfl rp0 fun g1 w1 p1 hs q1 => ?_)))
 have hfr := hfr.ext_ hAb hs
 have hmk := hmk.ext hs
 have rp0 := rp0.ext hs
 refine EL_do .plain rfl (D_box (g := g1) (a := (⟨(.func (.yield l) #[] #[]), rfl⟩ : Fv)) rfl (RV_fv.2 rfl) fun g2 w2 p2 hs q2 => ?_)
 have hfr := hfr.ext_ hAb hs
 have hmk := hmk.ext hs
 have rp0 := rp0.ext hs
 have q1 := q1.ext hs
 refine EL_nil (thn_n (E_seq (E_region (EL_do .plain rfl (D_load (g := g2) Try.isAgg98 Try.sizeOf98 rfl q1 fun v3 r3 => ?_)))))
 obtain ⟨y5, m5, h⟩ := bsome h
 refine EL_do .plain rfl (D_call (g := g2) (vs := [v3, .slice none 0 0]) en55 (.cons rfl (.cons rfl .nil)) (wk55 r3 RV_nil m5) fun g4 w4_ v4 hs hr => ?_)
 have hfr := hfr.ext_ hAb hs
 have hmk := hmk.ext hs
 have rp0 := rp0.ext hs
 have q1 := q1.ext hs
 have q2 := q2.ext hs
 have r3 := r3.ext hs
 have r4 := hr
 refine EL_do .plain rfl (D_allocOc (g := g4) 2004 ([] : List Str) Try.zeroValue36 (fun m w => ⟨_, rep_nil, rfl⟩) fun g6 w6 p6 hs b6 cb => ?_)
 have hfr := hfr.stp_ hAb hs rfl
 have hmk := hmk.stp hs
 have rp0 := rp0.stp hs
 have q1 := q1.stp hs
 have q2 := q2.stp hs
 have r3 := r3.stp hs
 have r4 := r4.stp hs
 have k6 : OSF 2004 60400 0 g6 w6 9 36 ([] : List Str) p6 := cb.osf (by rfl)
 clear cb
 refine EL_do .plain rfl (D_storeOc (g := g6) (v := v4) Try.sizeOf36 rfl b6 rfl r4 fun g7 w7 hs b7 cb => ?_)
 clear cb
 have hfr := hfr.stp_ hAb hs rfl
 have hmk := hmk.stp hs
 have rp0 := rp0.stp hs
 have q1 := q1.stp hs
 have q2 := q2.stp hs
 have r3 := r3.stp hs
 have r4 := r4.stp hs
 refine EL_nil (thn_n (E_seq (E_region (EL_do .plain rfl (D_load (g := g7) Try.isAgg98 Try.sizeOf98 rfl q1 fun v8 r8 => ?_)))))
 refine EL_pur (v := (.func (.func 90) #[v8] #[])) (P_makeFunc (capf_1_0 (show ev _ _ = v8 from rfl))) .plain rfl ?_
 refine EL_nil (thn_n (E_block ?_))
 have hB0 := hfr.hB
 have hmk0 := hmk
 obtain ⟨⟨j2, q3⟩, hφ, h⟩ := bsome h
 refine E_rangeFunc (σ := (Nat × σ)) (s0 := (0, (s0))) 10 rfl (fun s => s.1) [.ret] (fun (s : Nat × σ) (g : Gh) (w : World) => FrY gI wI B J (s.2) g w ∧ MkF g w [] ∧ PT g.m w (x0 : FaultFaultLoom) p1 ∧ PT g.m w (⟨(.func (.yield l) #[] #[]), rfl⟩ : Fv) p2 ∧ OB 2004 g w 36 (y5 : List Str) p6) rfl (show ItV Try.prog (RA1 (α := FaultDamage)) (fun σ cons s => f90 x0 σ cons s) ((.func (.func 90) #[v8] #[])) g7.m w7 from ⟨90, #[v8], #[], rfl, en90, fun g' w' hch σ cons s s' h => wk90 (r8.ch hch)  h⟩) hφ (fun _ _ _ h => (guardC_h h).1) rfl ra1_size rfl (fun _ _ _ _ _ hx hR => by obtain ⟨hfr, hmk, z2, z3, z4⟩ := hR; exact ⟨hfr.ist_ hAb hx hB0, hmk.ist hx, z2.ist hx, z3.ist hx, z4.ist hx⟩) (fun _ _ _ _ _ hx hR => by obtain ⟨hfr, hmk, z2, z3, z4⟩ := hR; exact ⟨hfr.stp_ hAb hx rfl, hmk.stp hx, z2.stp hx, z3.stp hx, z4.stp hx rfl⟩) ⟨hfr, hmk, q1, q2, b7⟩ (fun _ h => by cases h) ?_ ?_
 ·intro e5 x4 s x b s2 p4 c5 vs hsz h hR hrec_0 q4 hrd
  obtain ⟨hs0, h⟩ := guardC_h h
  obtain ⟨st, o3⟩ := s
  obtain ⟨hfr, hmk, o0, u0, y0⟩ := hR
  obtain ⟨m1, hxe⟩ : ∃ y, y = x := ⟨x, rfl⟩
  subst hxe
  obtain ⟨b5, rfl, n0⟩ := ra1_get hrd
  have j0 := RFr.refl p4 c5
  refine E_region (EL_do .plain rfl (D_allocOc (g := p4) 2005 (⟨0, 0, 0, 0, false⟩ : FaultDamage) Try.zeroValue62 (fun m w => ⟨_, (rep_two rep_int (rep_two rep_int (rep_two rep_int (rep_two rep_int rep_bool)))), rfl⟩) fun n5 o6 q6 hs b37 cb => ?_))
  have hfr := hfr.stp_ hAb hs rfl
  have hmk := hmk.stp hs
  have j0 := j0.stp hs
  have hrec_0 := hrec_0.stp hs rfl
  have o0 := o0.stp hs
  have u0 := u0.stp hs
  have y0 := y0.stp hs rfl
  have n0 := n0.stp hs
  clear cb
  refine EL_do .plain rfl (D_storeOc (g := n5) (v := b5) Try.sizeOf62 rfl b37 rfl n0 fun s4 r6 hs b38 cb => ?_)
  clear cb
  have hfr := hfr.stp_ hAb hs rfl
  have hmk := hmk.stp hs
  have j0 := j0.stp hs
  have hrec_0 := hrec_0.stp hs rfl
  have o0 := o0.stp hs
  have u0 := u0.stp hs
  have y0 := y0.stp hs rfl
  have n0 := n0.stp hs
  refine EL_nil (thn_n ?_)
  obtain ⟨o5, hbr, hs, hrN⟩ := begin_round hrec_0 q4
  refine ⟨o5, hbr, ?_⟩
  have hfr := hfr.stp_ hAb hs rfl
  have hmk := hmk.stp hs
  have j0 := j0.stp hs
  have o0 := o0.stp hs
  have u0 := u0.stp hs
  have y0 := y0.stp hs rfl
  have n0 := n0.stp hs
  have b38 := b38.stp hs rfl
  have hrec_0 := hrN
  clear hbr hs hrN
  refine E_block ?_
  refine E_seq (E_region (EL_do .plain rfl (D_load (g := s4) Try.isAgg98 Try.sizeOf98 rfl o0 fun p5 z1 => ?_)))
  refine EL_do .plain rfl (D_loadO (g := s4) Try.isAgg62 Try.sizeOf62 rfl b38 fun q5 d2 => ?_)
  refine EL_do .plain rfl (D_buildSlice (g := s4) 3014 (xs := ([m1] : List FaultDamage)) (vs := [q5]) Try.underlying29 Try.sizeOf62 Try.zeroValue62 rfl rfl (.cons rfl .nil) (RVs.cons d2 RVs.nil) rfl rfl fun r5 s6 t5 hs o42 i3 hxt hfl => ?_)
  have hfr := hfr.stp_ hAb hs rfl
  have hmk := hmk.stp hs
  have j0 := j0.stp hs
  have hrec_0 := hrec_0.stp hs rfl
  have o0 := o0.stp hs
  have u0 := u0.stp hs
  have y0 := y0.stp hs rfl
  have n0 := n0.stp hs
  have b38 := b38.stp hs rfl
  have z1 := z1.stp hs
  have d2 := d2.stp hs
  obtain ⟨d4, i5, h⟩ := bsome h
  refine EL_do .plain rfl (D_call (g := r5) (vs := [p5, t5]) en55 (.cons rfl (.cons rfl .nil)) (wk55 z1 i3 i5) fun d5 l6 e4 hs hr => ?_)
  have hfr := hfr.ext_ hAb hs
  have hmk := hmk.ext hs
  have j0 := j0.ext hs
  have hrec_0 := hrec_0.ext hs
  have o0 := o0.ext hs
  have u0 := u0.ext hs
  have y0 := y0.ext hs
  have n0 := n0.ext hs
  have b38 := b38.ext hs
  have z1 := z1.ext hs
  have d2 := d2.ext hs
  have i3 := i3.ext hs
  have o42 := o42.ext hs
  have m3 := hr
  refine EL_pur (v := e4) (P_assign rfl) .plain rfl ?_
  refine EL_nil (thn_n ?_)
  obtain ⟨⟨i2, j1⟩, hx, h⟩ := bsome h
  refine E_join (fun e w => ∃ (g : Gh) , FrY gI wI B J (i2) g w ∧ MkF g w [] ∧ RFr p4 c5 g w ∧ HB 10 g w e5 (.loop { x4 with state := .busy }) ∧ e 2 = p1 ∧ PT g.m w (x0 : FaultFaultLoom) p1 ∧ e 3 = p2 ∧ PT g.m w (⟨(.func (.yield l) #[] #[]), rfl⟩ : Fv) p2 ∧ e 4 = p6 ∧ OB 2004 g w 36 (y5 : List Str) p6 ∧ e 10 = (.func (.func 90) #[v8] #[]) ∧ e 26 = .bool (j1)) (fun Q' hQ => ?_) (fun m6 t6 hR => ?_)
  ·replace h := hx
   clear hx
   refine E_region (EL_pur (v := e4) (P_move rfl) .plain rfl ?_)
   refine EL_do .plain rfl (D_loadO (g := d5) Try.isAgg36 Try.sizeOf36 rfl y0 fun u5 s3 => ?_)
   obtain ⟨j3, j5, h⟩ := bsome h
   refine EL_do .plain rfl (D_call (g := d5) (vs := [e4, u5]) en71 (.cons rfl (.cons rfl .nil)) (wk71 m3 s3 j5) fun i4 n6 u6 hs hr => ?_)
   have hfr := hfr.ext_ hAb hs
   have hmk := hmk.ext hs
   have j0 := j0.ext hs
   have hrec_0 := hrec_0.ext hs
   have o0 := o0.ext hs
   have u0 := u0.ext hs
   have y0 := y0.ext hs
   have n0 := n0.ext hs
   have b38 := b38.ext hs
   have z1 := z1.ext hs
   have d2 := d2.ext hs
   have i3 := i3.ext hs
   have o42 := o42.ext hs
   have m3 := m3.ext hs
   have s3 := s3.ext hs
   subst hr
   refine EL_pur (v := .bool (!j3)) (P_not rfl) .plain rfl ?_
   refine EL_pur (v := .bool (!j3)) (P_move rfl) .plain rfl ?_
   rcases csome h with ⟨i1, h⟩ | ⟨i1, h⟩
   ·refine EL_do (.yes2 rfl rfl i1) rfl (D_load (α := Fv) (g := i4) Try.isAgg141 Try.sizeOf141 rfl u0 fun v6 x5 => ?_)
    obtain rfl := RV_fv.1 x5
    refine EL_do (.yes2 rfl rfl i1) rfl (D_loadO (g := i4) Try.isAgg62 Try.sizeOf62 rfl b38 fun x6 u4 => ?_)
    refine EL_pur (v := e4) (P_move rfl) (.yes2 rfl rfl i1) rfl ?_
    obtain ⟨z5, l5, h⟩ := bsome h
    obtain ⟨p3, o4⟩ := z5
    refine EL_do (.yes2 rfl rfl i1) rfl (D_yield (g := i4) (x := (m1, d4)) rfl (.cons rfl (.cons rfl .nil)) hRo hfr l5 ⟨_, _, rfl, u4, m3⟩ fun a6 y6 hs hfrY => ?_)
    have hmk := hmk.stp hs
    have j0 := j0.stp hs
    have hrec_0 := hrec_0.stp hs rfl
    have o0 := o0.stp hs
    have u0 := u0.stp hs
    have y0 := y0.stp hs rfl
    have n0 := n0.stp hs
    have b38 := b38.stp hs rfl
    have z1 := z1.stp hs
    have d2 := d2.stp hs
    have i3 := i3.stp hs
    have o42 := o42.stp hs rfl
    have m3 := m3.stp hs
    have s3 := s3.stp hs
    have u4 := u4.stp hs
    have hfr := hfrY
    clear hfrY
    refine EL_pur (v := .bool (!p3)) (P_not rfl) (.yes2 rfl rfl i1) rfl ?_
    refine EL_pur (v := .bool (!p3)) (P_pick (b := (!j3)) rfl (pick_t i1 rfl)) .plain rfl ?_
    refine EL_nil ?_
    obtain ⟨rfl, rfl⟩ := pairs2 h
    exact hQ _ _ ⟨a6, hfr, hmk, j0, hrec_0, rfl, o0, rfl, u0, rfl, y0, rfl, rfl⟩
   ·refine EL_skip (.no2 rfl rfl i1 rfl) rfl ?_
    refine EL_skip (.no2 rfl rfl i1 rfl) rfl ?_
    refine EL_skip (.no2 rfl rfl i1 rfl) rfl ?_
    refine EL_skip (.no2 rfl rfl i1 rfl) rfl ?_
    refine EL_skip (.no2 rfl rfl i1 rfl) rfl ?_
    refine EL_pur (v := .bool false) (P_pick (b := (!j3)) rfl (pick_f i1 rfl)) .plain rfl ?_
    refine EL_nil ?_
    obtain ⟨rfl, rfl⟩ := pairs2 h
    exact hQ _ _ ⟨i4, hfr, hmk, j0, hrec_0, rfl, o0, rfl, u0, rfl, y0, rfl, rfl⟩
  ·clear hx
   obtain ⟨z6, hfr, hmk, j0, hrec_0, d6, j4, e6, m4, i6, n4, c6, u3⟩ := hR
   rcases csome h with ⟨c4, h⟩ | ⟨c4, h⟩
   ·refine E_cond_true (Eq.trans (show ev _ _ = .bool (j1) from u3) (congrArg Value.bool c4)) ?_
    refine E_ret (blk_r ?_)
    obtain ⟨rfl, rfl⟩ := pairs2 h
    exact ⟨_, j0, ⟨hfr, hmk, j4, m4, n4⟩, hrec_0, rfl, 0, rfl, rfl⟩
   ·refine E_cond_false (Eq.trans (show ev _ _ = .bool (j1) from u3) (congrArg Value.bool c4)) ?_
    refine E_skip (blk_n ?_)
    obtain ⟨rfl, rfl⟩ := pairs2 h
    exact ⟨_, j0, ⟨hfr, hmk, j4, m4, n4⟩, hrec_0, rfl, rfl⟩
 ·intro a7 w64 ds64 hsz hR hds
  obtain ⟨hfr, hmk, m2, d3, e3⟩ := hR
  obtain ⟨D, hdse, hD, hDb⟩ := hds.1 rfl
  subst hdse
  replace hmk := MkF.push hmk0 hmk hD hDb
  clear hD hDb hds
  revert hmk
  generalize ({ target := .collected D, args := #[] } :: [] : List Deferred) = j6
  intro hmk
  refine ⟨fun hs => ?_, fun k c hs hc => ?_⟩
  ·have hs : j2 = 0 := hs
   subst hs
   replace h := cond_t h rfl
   refine blk_n (endM (.inl rfl) hmk fun c7 d7 hs => ?_)
   have hfr := hfr.stp_ hAb hs rfl
   have m2 := m2.stp hs
   have d3 := d3.stp hs
   have e3 := e3.stp hs rfl
   obtain rfl := Option.some.inj h
   exact end0n rfl rfl (FrY.done hfr)
  ·have hs : j2 = k + 1 := hs
   match k, hs, hc with
   | 0, hs, hc =>
    subst hs
    obtain rfl := Option.some.inj hc
    replace h := cond_f h rfl
    refine E_ret (blk_r ?_)
    refine endM (.inr rfl) hmk fun e7 i7 hs => ?_
    have hfr := hfr.stp_ hAb hs rfl
    have m2 := m2.stp hs
    have d3 := d3.stp hs
    have e3 := e3.stp hs rfl
    obtain rfl := Option.some.inj h
    exact end0 rfl rfl (FrY.done hfr)
   | n + 1, _, hc => exact absurd hc (by simp)
/-- (griffe/fault.loom).rounds -/
def f68 (x0 : FaultFaultLoom) (x1 : List FaultDamage) : Option ((List (List Str))) :=
 Option.bind (α := (List (List Str))) (
  lp (σ := (List (List Str)) × Int) (fun s4 (m2, u0) =>
   bif (decide (u0 < ((x1).length : Int))) then
    Option.bind (α := (List (List Str))) (
     (idx x1 u0).bind fun o3 =>
     (f55 x0 (([o3] : List FaultDamage))).bind fun p3 =>
     (apnd 24 m2 (([p3] : List (List Str)))).bind fun u4 =>
     some (u4)
     ) fun m1 =>
    s4 (m1, (w64 (u0 + (1 : Int))))
   else
    some (m2)
   ) big ([], (0 : Int))
  ) fun i2 =>
 some (i2)
theorem en68 : Enters Try.prog 68 := enters_of Try.func68 (by kernel_rfl) rfl
theorem wk68 {gI : Gh} {wI : World} {x0 : FaultFaultLoom} {x1 : List FaultDamage} {up0 : Value} (rp0 : RV gI.m wI x0 up0) {up1 : Value} (rp1 : RV gI.m wI x1 up1) {r : (List (List Str))} (h : f68 x0 x1 = some r) : Fn Try.prog 68 #[up0, up1] gI wI (fun m w v => RV m w (r) v) := by
 unfold f68 at h
 refine fn_of_E Try.func68 rfl (Nat.le_of_ble_eq_true rfl) fun g0 hm hfr => ?_
 have rp0 : RV g0.m wI x0 up0 := hm ▸ rp0
 have rp1 : RV g0.m wI x1 up1 := hm ▸ rp1
 show E _ 22 none _ _ _ _ _
 refine E_seq (E_region (EL_do .plain rfl (D_box (g := g0) rfl rp0 fun g1 w1 p1 hs q1 => ?_)))
 have hfr := hfr.ext hs
 have rp0 := rp0.ext hs
 have rp1 := rp1.ext hs
 refine EL_pur (v := .slice none 0 0) (P_assign rfl) .plain rfl ?_
 refine EL_nil (thn_n ?_)
 obtain ⟨i2, hx, h⟩ := bsome h
 refine E_join (fun e w => ∃ (g : Gh) (v4 : Value), Fr gI wI g w ∧ e 4 = v4 ∧ RV g.m w (i2 : List (List Str)) v4 ∧ OS 1004 g w 36 (i2 : List (List Str)) v4) (fun Q' hQ => ?_) (fun x5 b6 hR => ?_)
 ·replace h := hx
  clear hx
  refine E_seq (E_region (EL_pur (v := up1) (P_move rfl) .plain rfl ?_))
  refine EL_pur (v := .int .i64 ((x1).length : Int)) (P_len Try.underlying29 rfl rp1) .plain rfl ?_
  refine EL_pur (v := .int .i64 (0)) (P_move rfl) .plain rfl ?_
  refine EL_nil (thn_n (E_block ?_))
  refine E_lp h (fun (s : (List (List Str)) × Int) e w => ∃ (g : Gh) (v4 : Value), Fr gI wI g w ∧ e 2 = p1 ∧ PT g.m w (x0 : FaultFaultLoom) p1 ∧ e 4 = v4 ∧ RV g.m w (s.1 : List (List Str)) v4 ∧ OS 1004 g w 36 (s.1 : List (List Str)) v4 ∧ e 7 = up1 ∧ RV g.m w (x1 : List FaultDamage) up1 ∧ e 8 = .int .i64 (((x1).length : Int)) ∧ e 9 = .int .i64 (s.2)) ⟨g1, (.slice none 0 0), hfr, rfl, q1, rfl, RV_nil, OS.nil, rfl, rp1, rfl, rfl⟩ (fun X32 s4 z4 => ?_)
  rintro ⟨m2, u0⟩ y5 c6 ⟨q3, d3, hfr, e3, n0, i3, o0, y0, j3, j0, m3, p2⟩ h
  refine E_seq (E_region (EL_pur (v := .bool ((decide (u0 < ((x1).length : Int))))) (P_int p2 m3 rfl) .plain rfl ?_))
  refine EL_nil (thn_n (E_seq ?_))
  rcases csome h with ⟨z2, h⟩ | ⟨z2, h⟩
  ·refine E_cond_true (Eq.trans (show ev _ _ = .bool ((decide (u0 < ((x1).length : Int)))) from rfl) (congrArg Value.bool z2)) ?_
   refine E_skip (thn_n ?_)
   obtain ⟨m1, hx, h⟩ := bsome h
   refine E_join (fun e w => ∃ (g : Gh) (v4 : Value), Fr gI wI g w ∧ e 2 = p1 ∧ PT g.m w (x0 : FaultFaultLoom) p1 ∧ e 4 = v4 ∧ RV g.m w (m1 : List (List Str)) v4 ∧ OS 1004 g w 36 (m1 : List (List Str)) v4 ∧ e 7 = up1 ∧ RV g.m w (x1 : List FaultDamage) up1 ∧ e 8 = .int .i64 (((x1).length : Int)) ∧ e 9 = .int .i64 (u0)) (fun Q' hQ => ?_) (fun z5 d6 hR => ?_)
   ·replace h := hx
    clear hx
    refine E_block ?_
    refine E_seq (E_region ?_)
    obtain ⟨o3, r3, h⟩ := bsome h
    refine EL_pur (v := ePtr up1 u0 5) (P_indexAddr (α := FaultDamage) Try.underlying29 Try.sizeOf62 j3 j0 p2 r3) .plain rfl ?_
    have i1 := PT_idx j0 r3
    refine EL_do .plain rfl (D_load (g := q3) Try.isAgg62 Try.sizeOf62 rfl i1 fun d5 j1 => ?_)
    refine EL_do .plain rfl (D_allocOc (g := q3) 2006 (⟨0, 0, 0, 0, false⟩ : FaultDamage) Try.zeroValue62 (fun m w => ⟨_, (rep_two rep_int (rep_two rep_int (rep_two rep_int (rep_two rep_int rep_bool)))), rfl⟩) fun e5 e6 i6 hs b51 cb => ?_)
    have hfr := hfr.stp hs
    have n0 := n0.stp hs
    have o0 := o0.stp hs
    have y0 := y0.stp hs rfl
    have j0 := j0.stp hs
    have i1 := i1.stp hs
    have j1 := j1.stp hs
    clear cb
    refine EL_do .plain rfl (D_storeOc (g := e5) (v := d5) Try.sizeOf62 rfl b51 rfl j1 fun s3 j6 hs b52 cb => ?_)
    clear cb
    have hfr := hfr.stp hs
    have n0 := n0.stp hs
    have o0 := o0.stp hs
    have y0 := y0.stp hs rfl
    have j0 := j0.stp hs
    have i1 := i1.stp hs
    have j1 := j1.stp hs
    refine EL_nil (thn_n (E_region (EL_pur (v := d3) (P_move i3) .plain rfl ?_)))
    refine EL_do .plain rfl (D_load (g := s3) Try.isAgg98 Try.sizeOf98 e3 n0 fun i5 z1 => ?_)
    refine EL_do .plain rfl (D_loadO (g := s3) Try.isAgg62 Try.sizeOf62 rfl b52 fun j5 d2 => ?_)
    refine EL_do .plain rfl (D_buildSlice (g := s3) 3016 (xs := ([o3] : List FaultDamage)) (vs := [j5]) Try.underlying29 Try.sizeOf62 Try.zeroValue62 rfl rfl (.cons rfl .nil) (RVs.cons d2 RVs.nil) rfl rfl fun l5 k6 m5 hs o55 j2 hxt hfl => ?_)
    have hfr := hfr.stp hs
    have n0 := n0.stp hs
    have o0 := o0.stp hs
    have y0 := y0.stp hs rfl
    have j0 := j0.stp hs
    have i1 := i1.stp hs
    have j1 := j1.stp hs
    have b52 := b52.stp hs rfl
    have z1 := z1.stp hs
    have d2 := d2.stp hs
    obtain ⟨p3, b5, h⟩ := bsome h
    refine EL_do .plain rfl (D_call (g := l5) (vs := [i5, m5]) en55 (.cons rfl (.cons rfl .nil)) (wk55 z1 j2 b5) fun n5 a6 o5 hs hr => ?_)
    have hfr := hfr.ext hs
    have n0 := n0.ext hs
    have o0 := o0.ext hs
    have y0 := y0.ext hs
    have j0 := j0.ext hs
    have i1 := i1.ext hs
    have j1 := j1.ext hs
    have b52 := b52.ext hs
    have z1 := z1.ext hs
    have d2 := d2.ext hs
    have j2 := j2.ext hs
    have o55 := o55.ext hs
    have s2 := hr
    refine EL_do .plain rfl (D_buildSlice (g := n5) 3018 (xs := ([p3] : List (List Str))) (vs := [o5]) Try.underlying78 Try.sizeOf36 Try.zeroValue36 rfl rfl (.cons rfl .nil) (RVs.cons s2 RVs.nil) rfl rfl fun p5 l6 m6 hs o58 u3 hxt hfl => ?_)
    have hfr := hfr.stp hs
    have n0 := n0.stp hs
    have o0 := o0.stp hs
    have y0 := y0.stp hs rfl
    have j0 := j0.stp hs
    have i1 := i1.stp hs
    have j1 := j1.stp hs
    have b52 := b52.stp hs rfl
    have z1 := z1.stp hs
    have d2 := d2.stp hs
    have j2 := j2.stp hs
    have o55 := o55.stp hs rfl
    have s2 := s2.stp hs
    obtain ⟨u4, c5, h⟩ := bsome h
    refine EL_do .plain rfl (D_append (g := p5) (i := 1004) Try.underlying78 info_36 rfl rfl y0 o0 rfl u3 c5 fun q5 n6 x4 hs o59 r5 _ => ?_)
    have hfr := hfr.stp hs
    have n0 := n0.stp hs
    have o0 := o0.stp hs
    have j0 := j0.stp hs
    have i1 := i1.stp hs
    have j1 := j1.stp hs
    have b52 := b52.stp hs rfl
    have z1 := z1.stp hs
    have d2 := d2.stp hs
    have j2 := j2.stp hs
    have o55 := o55.stp hs rfl
    have s2 := s2.stp hs
    have u3 := u3.stp hs
    have o58 := o58.stp hs rfl
    refine EL_pur (v := x4) (P_assign rfl) .plain rfl ?_
    refine EL_nil (blk_n ?_)
    obtain rfl := Option.some.inj h
    exact hQ _ _ ⟨q5, (x4), hfr, e3, n0, rfl, r5, o59, j3, j0, m3, p2⟩
   ·clear hx
    obtain ⟨t5, z3, hfr, c4, d4, e4, i4, j4, m4, n4, o4, p4⟩ := hR
    refine E_region (EL_pur (v := .int .i64 ((w64 (u0 + (1 : Int))))) (P_int p4 rfl rfl) .plain rfl ?_)
    refine EL_pur (v := .int .i64 ((w64 (u0 + (1 : Int))))) (P_move rfl) .plain rfl ?_
    exact EL_nil (thn_n (z4 (m1, (w64 (u0 + (1 : Int)))) _ _ ⟨t5, (z3), hfr, c4, d4, e4, i4, j4, m4, n4, o4, rfl⟩ h))
  ·refine E_cond_false (Eq.trans (show ev _ _ = .bool ((decide (u0 < ((x1).length : Int)))) from rfl) (congrArg Value.bool z2)) ?_
   refine E_exit ?_
   refine thn_e ?_
   refine thn_e ?_
   refine blk_hit ?_
   obtain rfl := Option.some.inj h
   exact hQ _ _ ⟨q3, (d3), hfr, i3, o0, y0⟩
 ·clear hx
  obtain ⟨o6, q2, hfr, q4, r4, u5⟩ := hR
  refine E_seq (E_region (EL_pur (v := q2) (P_move q4) .plain rfl ?_))
  refine EL_pur (v := q2) (P_assign rfl) .plain rfl ?_
  refine EL_nil (thn_n (E_ret ?_))
  obtain rfl := Option.some.inj h
  exact end1 rfl rfl (show _ = q2 from rfl) ⟨_, hfr, r4⟩
/-- griffe/fault.Weave -/
def f19 (x0 : FaultLoom) (x1 : List FaultDamage) (x2 : Int) : Option ((List Str) × Int) :=
 jn (σ := (List Str)) (fun m3 =>
  (f55 ((⟨x0⟩ : FaultFaultLoom)) x1).bind fun d2 =>
  Option.bind (α := (List Str)) (
   lp (σ := (List Str) × Int) (fun i5 (i2, j0) =>
    bif (decide (j0 < x2)) then
     Option.bind (α := (List Str)) (
      (rem64 j0 ((d2).length : Int)).bind fun o3 =>
      (idx d2 o3).bind fun p3 =>
      (apnd 16 i2 (([p3] : List Str))).bind fun j5 =>
      some (j5)
      ) fun u0 =>
     i5 (u0, (w64 (j0 + (1 : Int))))
    else
     some (i2)
    ) big (m3, (0 : Int))
   ) fun j1 =>
  some (j1, (0 : Int))
  ) fun k6 =>
 (f54 x0 x1 x2).bind fun y9 =>
 bif (y9 != (0 : Int)) then
  some ([], y9)
 else
  k6 ([])
theorem en19 : Enters Try.prog 19 := enters_of Try.func19 (by kernel_rfl) rfl
theorem wk19 {gI : Gh} {wI : World} {x0 : FaultLoom} {x1 : List FaultDamage} {x2 : Int} {up0 : Value} (rp0 : RV gI.m wI x0 up0) {up1 : Value} (rp1 : RV gI.m wI x1 up1) {r : (List Str) × Int} (h : f19 x0 x1 x2 = some r) : Fn Try.prog 19 #[up0, up1, .int .i64 (x2)] gI wI (fun m w v => ∃ y0 y1, v = .tuple #[y0, y1] ∧ RV m w (r.1) y0 ∧ y1 = .int .i64 (r.2)) := by
 unfold f19 at h
 refine fn_of_E Try.func19 rfl (Nat.le_of_ble_eq_true rfl) fun g0 hm hfr => ?_
 have rp0 : RV g0.m wI x0 up0 := hm ▸ rp0
 have rp1 : RV g0.m wI x1 up1 := hm ▸ rp1
 show E _ 38 none _ _ _ _ _
 refine E_seq (E_region (EL_do .plain rfl (D_box (g := g0) rfl rp0 fun g1 w1 p1 hs q1 => ?_)))
 have hfr := hfr.ext hs
 have rp0 := rp0.ext hs
 have rp1 := rp1.ext hs
 refine EL_pur (v := .slice none 0 0) (P_assign rfl) .plain rfl ?_
 refine EL_pur (v := .int .i64 (0)) (P_assign rfl) .plain rfl ?_
 refine EL_nil (thn_n (E_joinC h (fun (s : (List Str)) e w => ∃ (g : Gh) (v6 : Value), Fr gI wI g w ∧ e 1 = up1 ∧ RV g.m w (x1 : List FaultDamage) up1 ∧ e 2 = .int .i64 (x2) ∧ e 3 = p1 ∧ PT g.m w (x0 : FaultLoom) p1 ∧ e 6 = v6 ∧ RV g.m w (s : List Str) v6 ∧ OS 1006 g w 9 (s : List Str) v6) (fun X6 k6 t5 h => ?_) ?_))
 ·refine E_seq (E_region (EL_do .plain rfl (D_load (g := g1) Try.isAgg28 Try.sizeOf28 rfl q1 fun v7 r7 => ?_)))
  refine EL_pur (v := up1) (P_move rfl) .plain rfl ?_
  refine EL_pur (v := .int .i64 (x2)) (P_move rfl) .plain rfl ?_
  obtain ⟨y9, u5, h⟩ := bsome h
  refine EL_do .plain rfl (D_call (g := g1) (vs := [v7, up1, .int .i64 (x2)]) en54 (.cons rfl (.cons rfl (.cons rfl .nil))) (wk54 r7 rp1 u5) fun g8 w8_ v8 hs hr => ?_)
  have hfr := hfr.ext hs
  have rp0 := rp0.ext hs
  have rp1 := rp1.ext hs
  have q1 := q1.ext hs
  have r7 := r7.ext hs
  subst hr
  refine EL_pur (v := .int .i64 (y9)) (P_assign rfl) .plain rfl ?_
  refine EL_nil (thn_n (E_seq (E_region (EL_pur (v := .int .i64 (y9)) (P_move rfl) .plain rfl ?_))))
  refine EL_pur (v := .bool ((y9 != (0 : Int)))) (P_int rfl rfl rfl) .plain rfl ?_
  refine EL_nil (thn_n ?_)
  rcases csome h with ⟨i3, h⟩ | ⟨i3, h⟩
  ·refine E_cond_true (Eq.trans (show ev _ _ = .bool ((y9 != (0 : Int))) from rfl) (congrArg Value.bool i3)) ?_
   refine E_seq (E_region (EL_pur (v := .int .i64 (y9)) (P_move rfl) .plain rfl ?_))
   refine EL_pur (v := .slice none 0 0) (P_assign rfl) .plain rfl ?_
   refine EL_pur (v := .int .i64 (y9)) (P_assign rfl) .plain rfl ?_
   refine EL_nil (thn_n (E_ret (thn_r ?_)))
   obtain rfl := Option.some.inj h
   exact end2 rfl rfl (show _ = .slice none 0 0 from rfl) (show _ = .int .i64 (y9) from rfl) ⟨_, hfr, _, _, rfl, RV_nil, rfl⟩
  ·refine E_cond_false (Eq.trans (show ev _ _ = .bool ((y9 != (0 : Int))) from rfl) (congrArg Value.bool i3)) ?_
   exact E_skip (thn_n (t5 ([]) _ _ ⟨g8, (.slice none 0 0), hfr, rfl, rp1, rfl, rfl, q1, rfl, RV_nil, OS.nil⟩ h))
 ·rintro m3 i6 o6 ⟨z3, n4, hfr, o4, j2, p4, q4, m2, r4, p2, q2⟩ h
  refine E_seq (E_region (EL_do .plain rfl (D_load (g := z3) Try.isAgg28 Try.sizeOf28 q4 m2 fun c4 q3 => ?_)))
  have r3 : RV z3.m _ (⟨x0⟩ : FaultFaultLoom) (.agg (setCh [[.int .i64 0, .slice none 0 0, .int .i64 0, .slice none 0 0]] [(0, c4)]).flatten.toArray) := RV_build rfl (rep_last (RV.cells q3))
  generalize n5 : (Value.agg (setCh [[.int .i64 0, .slice none 0 0, .int .i64 0, .slice none 0 0]] [(0, c4)]).flatten.toArray) = l5 at r3
  refine EL_pur (v := l5) (n5 ▸ P_build (vs := [(0, c4)]) [[.int .i64 0, .slice none 0 0, .int .i64 0, .slice none 0 0]] lay_98 rfl rfl (.cons rfl .nil) ⟨⟨_, rfl, cells_size q3⟩, trivial⟩) .plain rfl ?_
  refine EL_pur (v := up1) (P_move o4) .plain rfl ?_
  obtain ⟨d2, o5, h⟩ := bsome h
  refine EL_do .plain rfl (D_call (g := z3) (vs := [l5, up1]) en55 (.cons rfl (.cons rfl .nil)) (wk55 r3 j2 o5) fun x5 j6 i1 hs hr => ?_)
  have hfr := hfr.ext hs
  have j2 := j2.ext hs
  have m2 := m2.ext hs
  have p2 := p2.ext hs
  have q2 := q2.ext hs
  have q3 := q3.ext hs
  have r3 := r3.ext hs
  have y5 := hr
  refine EL_pur (v := i1) (P_assign rfl) .plain rfl ?_
  refine EL_nil (thn_n ?_)
  obtain ⟨j1, hx, h⟩ := bsome h
  refine E_join (fun e w => ∃ (g : Gh) (v6 : Value), Fr gI wI g w ∧ e 6 = v6 ∧ RV g.m w (j1 : List Str) v6 ∧ OS 1006 g w 9 (j1 : List Str) v6) (fun Q' hQ => ?_) (fun l6 p6 hR => ?_)
  ·replace h := hx
   clear hx
   refine E_seq (E_region (EL_pur (v := .int .i64 (x2)) (P_move p4) .plain rfl ?_))
   refine EL_pur (v := .int .i64 (0)) (P_move rfl) .plain rfl ?_
   refine EL_nil (thn_n (E_block ?_))
   refine E_lp h (fun (s : (List Str) × Int) e w => ∃ (g : Gh) (v6 : Value), Fr gI wI g w ∧ e 6 = v6 ∧ RV g.m w (s.1 : List Str) v6 ∧ OS 1006 g w 9 (s.1 : List Str) v6 ∧ e 9 = i1 ∧ RV g.m w (d2 : List Str) i1 ∧ e 22 = .int .i64 (x2) ∧ e 23 = .int .i64 (s.2)) ⟨x5, (n4), hfr, r4, p2, q2, rfl, y5, rfl, rfl⟩ (fun X34 i5 p5 => ?_)
   rintro ⟨i2, j0⟩ m6 q6 ⟨d4, s3, hfr, u3, o0, m1, s2, n0, d3, z1⟩ h
   refine E_seq (E_region (EL_pur (v := .bool ((decide (j0 < x2)))) (P_int z1 d3 rfl) .plain rfl ?_))
   refine EL_nil (thn_n (E_seq ?_))
   rcases csome h with ⟨j3, h⟩ | ⟨j3, h⟩
   ·refine E_cond_true (Eq.trans (show ev _ _ = .bool ((decide (j0 < x2))) from rfl) (congrArg Value.bool j3)) ?_
    refine E_skip (thn_n ?_)
    obtain ⟨u0, hx, h⟩ := bsome h
    refine E_join (fun e w => ∃ (g : Gh) (v6 : Value), Fr gI wI g w ∧ e 6 = v6 ∧ RV g.m w (u0 : List Str) v6 ∧ OS 1006 g w 9 (u0 : List Str) v6 ∧ e 9 = i1 ∧ RV g.m w (d2 : List Str) i1 ∧ e 22 = .int .i64 (x2) ∧ e 23 = .int .i64 (j0)) (fun Q' hQ => ?_) (fun n6 r6 hR => ?_)
    ·replace h := hx
     clear hx
     refine E_block ?_
     refine E_seq (E_region (EL_pur (v := .int .i64 (j0)) (P_move z1) .plain rfl ?_))
     refine EL_pur (v := .int .i64 (j0)) (P_assign rfl) .plain rfl ?_
     refine EL_nil (thn_n (E_region (EL_pur (v := s3) (P_move u3) .plain rfl ?_)))
     refine EL_pur (v := i1) (P_move s2) .plain rfl ?_
     refine EL_pur (v := .int .i64 (j0)) (P_move rfl) .plain rfl ?_
     refine EL_pur (v := i1) (P_move s2) .plain rfl ?_
     refine EL_pur (v := .int .i64 ((d2).length : Int)) (P_len Try.underlying36 rfl n0) .plain rfl ?_
     obtain ⟨o3, q5, h⟩ := bsome h
     refine EL_pur (v := .int .i64 (o3)) (P_int rfl rfl (congrArg (Option.map (Value.int .i64)) q5)) .plain rfl ?_
     obtain ⟨p3, e4, h⟩ := bsome h
     refine EL_pur (v := ePtr i1 o3 1) (P_indexAddr (α := Str) Try.underlying36 Try.sizeOf9 rfl n0 rfl e4) .plain rfl ?_
     have e3 := PT_idx n0 e4
     refine EL_do .plain rfl (D_load (g := d4) Try.isAgg9 Try.sizeOf9 rfl e3 fun s6 z5 => ?_)
     obtain rfl := RV_str.1 z5
     refine EL_do .plain rfl (D_buildSlice (g := d4) 3034 (xs := ([p3] : List Str)) (vs := [Str.v (p3)]) Try.underlying36 Try.sizeOf9 Try.zeroValue9 rfl rfl (.cons rfl .nil) (RVs.cons (RV_str.2 rfl) RVs.nil) rfl rfl fun a6 t6 u6 hs o48 i4 hxt hfl => ?_)
     have hfr := hfr.stp hs
     have o0 := o0.stp hs
     have m1 := m1.stp hs rfl
     have n0 := n0.stp hs
     have e3 := e3.stp hs
     obtain ⟨j5, r5, h⟩ := bsome h
     refine EL_do .plain rfl (D_append (g := a6) (i := 1006) Try.underlying36 info_9 rfl rfl m1 o0 rfl i4 r5 fun b6 x6 m5 hs o49 c6 _ => ?_)
     have hfr := hfr.stp hs
     have o0 := o0.stp hs
     have n0 := n0.stp hs
     have e3 := e3.stp hs
     have i4 := i4.stp hs
     have o48 := o48.stp hs rfl
     refine EL_pur (v := m5) (P_assign rfl) .plain rfl ?_
     refine EL_nil (blk_n ?_)
     obtain rfl := Option.some.inj h
     exact hQ _ _ ⟨b6, (m5), hfr, rfl, c6, o49, s2, n0, d3, z1⟩
    ·clear hx
     obtain ⟨d6, s4, hfr, u4, x4, z4, b5, c5, j4, m4⟩ := hR
     refine E_region (EL_pur (v := .int .i64 ((w64 (j0 + (1 : Int))))) (P_int m4 rfl rfl) .plain rfl ?_)
     refine EL_pur (v := .int .i64 ((w64 (j0 + (1 : Int))))) (P_move rfl) .plain rfl ?_
     exact EL_nil (thn_n (p5 (u0, (w64 (j0 + (1 : Int)))) _ _ ⟨d6, (s4), hfr, u4, x4, z4, b5, c5, j4, rfl⟩ h))
   ·refine E_cond_false (Eq.trans (show ev _ _ = .bool ((decide (j0 < x2))) from rfl) (congrArg Value.bool j3)) ?_
    refine E_exit ?_
    refine thn_e ?_
    refine thn_e ?_
    refine blk_hit ?_
    obtain rfl := Option.some.inj h
    exact hQ _ _ ⟨d4, (s3), hfr, u3, o0, m1⟩
  ·clear hx
   obtain ⟨y6, z2, hfr, d5, e5, e6⟩ := hR
   refine E_seq (E_region (EL_pur (v := z2) (P_move d5) .plain rfl ?_))
   refine EL_pur (v := z2) (P_assign rfl) .plain rfl ?_
   refine EL_pur (v := .int .i64 (0)) (P_assign rfl) .plain rfl ?_
   refine EL_nil (thn_n (E_ret ?_))
   obtain rfl := Option.some.inj h
   exact end2 rfl rfl (show _ = z2 from rfl) (show _ = .int .i64 (0) from rfl) ⟨_, hfr, _, _, rfl, e5, rfl⟩
/-- griffe/fault.Wrong -/
def f20 (x0 : FaultLoom) (x1 : List FaultDamage) (x2 : Int) : Option ((List FaultSight) × Int) :=
 (f19 x0 x1 x2).bind fun y5 =>
 jn (σ := (List FaultSight)) (fun u3 =>
  (f19 x0 ([]) x2).bind fun i4 =>
  Option.bind (α := (List FaultSight)) (
   (f56 (y5.1) (i4.1)).bind fun m5 =>
   (m5 ((List FaultSight)) (fun j4 (j0, n0) =>
    (idx (y5.1) j0).bind fun q4 =>
    (idx (q4).b n0).bind fun o0 =>
    (apnd 24 j4 (([(⟨j0, n0, (o0 == (120 : UInt8))⟩ : FaultSight)] : List FaultSight))).bind fun r4 =>
    some (true, (r4))
    ) (u3)).bind fun m4 =>
   some (m4)
   ) fun d2 =>
  some (d2, (0 : Int))
  ) fun o6 =>
 bif (y5.2 != (0 : Int)) then
  some ([], y5.2)
 else
  o6 (([] : List FaultSight))
theorem en20 : Enters Try.prog 20 := enters_of Try.func20 (by kernel_rfl) rfl
theorem wk20 {gI : Gh} {wI : World} {x0 : FaultLoom} {x1 : List FaultDamage} {x2 : Int} {up0 : Value} (rp0 : RV gI.m wI x0 up0) {up1 : Value} (rp1 : RV gI.m wI x1 up1) {r : (List FaultSight) × Int} (h : f20 x0 x1 x2 = some r) : Fn Try.prog 20 #[up0, up1, .int .i64 (x2)] gI wI (fun m w v => ∃ y0 y1, v = .tuple #[y0, y1] ∧ RV m w (r.1) y0 ∧ y1 = .int .i64 (r.2)) := by
 unfold f20 at h
 refine fnD_of_E Try.func20 rfl (Nat.le_of_ble_eq_true rfl) fun g0 hm hfr => ?_
 have hmk : MkF g0 wI [] := MkF.start
 have rp0 : RV g0.m wI x0 up0 := hm ▸ rp0
 have rp1 : RV g0.m wI x1 up1 := hm ▸ rp1
 show E _ 48 none _ _ _ _ _
 refine E_seq (E_region (EL_do .plain rfl (D_box (g := g0) rfl rp0 fun g1 w1 p1 hs q1 => ?_)))
 have hfr := hfr.ext hs
 have hmk := hmk.ext hs
 have rp0 := rp0.ext hs
 have rp1 := rp1.ext hs
 refine EL_do .plain rfl (D_allocOc (g := g1) 2006 ([] : List FaultSight) Try.zeroValue39 (fun m w => ⟨_, rep_nil, rfl⟩) fun g2 w2 p2 hs b2 cb => ?_)
 have hfr := hfr.stp hs
 have hmk := hmk.stp hs
 have rp0 := rp0.stp hs
 have rp1 := rp1.stp hs
 have q1 := q1.stp hs
 have q2 : OSF 2006 60600 0 g2 w2 56 39 ([] : List FaultSight) p2 := cb.osf (by rfl)
 clear cb
 refine EL_pur (v := .int .i64 (0)) (P_assign rfl) .plain rfl ?_
 refine EL_nil (thn_n (E_seq (E_region (EL_do .plain rfl (D_load (g := g2) Try.isAgg28 Try.sizeOf28 rfl q1 fun v3 r3 => ?_)))))
 refine EL_pur (v := up1) (P_move rfl) .plain rfl ?_
 refine EL_pur (v := .int .i64 (x2)) (P_move rfl) .plain rfl ?_
 obtain ⟨y5, r7, h⟩ := bsome h
 refine EL_do .plain rfl (D_call (g := g2) (vs := [v3, up1, .int .i64 (x2)]) en19 (.cons rfl (.cons rfl (.cons rfl .nil))) (wk19 r3 rp1 r7) fun g4 w4_ v4 hs hr => ?_)
 have hfr := hfr.ext hs
 have hmk := hmk.ext hs
 have rp0 := rp0.ext hs
 have rp1 := rp1.ext hs
 have q1 := q1.ext hs
 have q2 := q2.ext hs
 have b2 := b2.ext hs
 have r3 := r3.ext hs
 obtain ⟨s4, g8, rfl, z1, rfl⟩ := hr
 refine EL_pur (v := .tuple #[s4, .int .i64 (y5.2)]) (P_move rfl) .plain rfl ?_
 refine EL_pur (v := s4) (P_extract rfl rfl) .plain rfl ?_
 refine EL_pur (v := .int .i64 (y5.2)) (P_extract rfl rfl) .plain rfl ?_
 refine EL_do .plain rfl (D_allocOc (g := g4) 2008 ([] : List Str) Try.zeroValue36 (fun m w => ⟨_, rep_nil, rfl⟩) fun g6 w6 p6 hs b6 cb => ?_)
 have hfr := hfr.stp hs
 have hmk := hmk.stp hs
 have rp0 := rp0.stp hs
 have rp1 := rp1.stp hs
 have q1 := q1.stp hs
 have q2 := q2.stp hs rfl
 have b2 := b2.stp hs rfl
 have r3 := r3.stp hs
 have z1 := z1.stp hs
 have i8 : OSF 2008 60800 0 g6 w6 9 36 ([] : List Str) p6 := cb.osf (by rfl)
 clear cb
 refine EL_do .plain rfl (D_storeOc (g := g6) (v := s4) Try.sizeOf36 rfl b6 rfl z1 fun g7 w7 hs b7 cb => ?_)
 clear cb
 have hfr := hfr.stp hs
 have hmk := hmk.stp hs
 have rp0 := rp0.stp hs
 have rp1 := rp1.stp hs
 have q1 := q1.stp hs
 have q2 := q2.stp hs rfl
 have b2 := b2.stp hs rfl
 have r3 := r3.stp hs
 have z1 := z1.stp hs
 refine EL_pur (v := .int .i64 (y5.2)) (P_assign rfl) .plain rfl ?_
 refine EL_nil (thn_n (E_joinCD h (fun (s : (List FaultSight)) e ds w => ∃ (g : Gh) , Fr gI wI g w ∧ MkF g w ds ∧ e 2 = .int .i64 (x2) ∧ e 3 = p1 ∧ PT g.m w (x0 : FaultLoom) p1 ∧ e 6 = p2 ∧ OB 2006 g w 39 (s : List FaultSight) p2 ∧ OSF 2006 60600 0 g w 56 39 (s) p2 ∧ e 8 = p6 ∧ OB 2008 g w 36 (y5.1 : List Str) p6) (fun X12 o6 t6 h => ?_) ?_))
 ·refine E_seq (E_region (EL_pur (v := .int .i64 (y5.2)) (P_move rfl) .plain rfl ?_))
  refine EL_pur (v := .bool ((y5.2 != (0 : Int)))) (P_int rfl rfl rfl) .plain rfl ?_
  refine EL_nil (thn_n ?_)
  rcases csome h with ⟨u4, h⟩ | ⟨u4, h⟩
  ·refine E_cond_true (Eq.trans (show ev _ _ = .bool ((y5.2 != (0 : Int))) from rfl) (congrArg Value.bool u4)) ?_
   refine E_seq (E_region (EL_pur (v := .int .i64 (y5.2)) (P_move rfl) .plain rfl ?_))
   refine EL_do .plain rfl (D_storeOc (g := g7) (v := .slice none 0 0) Try.sizeOf39 rfl b2 rfl RV_nil fun s7 t7 hs b14 cb => ?_)
   have b5 : OSF 2006 60600 0 s7 t7 56 39 ([] : List FaultSight) p2 := cb.osfr (rfl) OS.nil
   clear cb
   have hfr := hfr.stp hs
   have hmk := hmk.stp hs
   have rp0 := rp0.stp hs
   have rp1 := rp1.stp hs
   have q1 := q1.stp hs
   have r3 := r3.stp hs
   have z1 := z1.stp hs
   have b7 := b7.stp hs rfl
   refine EL_pur (v := .int .i64 (y5.2)) (P_assign rfl) .plain rfl ?_
   refine EL_nil (thn_n (E_ret (thn_r ?_)))
   refine endM (.inr rfl) hmk fun r8 t8 hs => ?_
   have hfr := hfr.stp hs
   have rp0 := rp0.stp hs
   have rp1 := rp1.stp hs
   have q1 := q1.stp hs
   have b5 := b5.stp hs rfl
   have b14 := b14.stp hs rfl
   have r3 := r3.stp hs
   have z1 := z1.stp hs
   have b7 := b7.stp hs rfl
   obtain rfl := Option.some.inj h
   obtain ⟨ad16, cv16, hp16, u6, cr16⟩ := ob_read Try.isAgg39 Try.sizeOf39 b14
   exact endm_ct rfl rfl ((show _ = p2 from rfl).trans hp16) u6 (show _ = .int .i64 (y5.2) from rfl) ⟨_, hfr, _, _, rfl, cr16, rfl⟩
  ·refine E_cond_false (Eq.trans (show ev _ _ = .bool ((y5.2 != (0 : Int))) from rfl) (congrArg Value.bool u4)) ?_
   exact E_skip (thn_n (t6 (([] : List FaultSight)) _ _ _ ⟨g7, hfr, hmk, rfl, rfl, q1, rfl, b2, q2, rfl, b7⟩ h))
 ·rintro u3 j8 c5 v8 ⟨q6, hfr, hmk, c6, d6, i3, c4, j3, u6_0_17, d5, m2⟩ h
  refine E_seq (E_region (EL_do .plain rfl (D_load (g := q6) Try.isAgg28 Try.sizeOf28 d6 i3 fun u7 n4 => ?_)))
  refine EL_pur (v := .int .i64 (x2)) (P_move c6) .plain rfl ?_
  obtain ⟨i4, v6, h⟩ := bsome h
  refine EL_do .plain rfl (D_call (g := q6) (vs := [u7, .slice none 0 0, .int .i64 (x2)]) en19 (.cons rfl (.cons rfl (.cons rfl .nil))) (wk19 n4 RV_nil v6) fun r6 k8 x8 hs hr => ?_)
  have hfr := hfr.ext hs
  have hmk := hmk.ext hs
  have i3 := i3.ext hs
  have u6_0_17 := u6_0_17.ext hs
  have j3 := j3.ext hs
  have m2 := m2.ext hs
  have n4 := n4.ext hs
  obtain ⟨m3, c8, rfl, d4, rfl⟩ := hr
  refine EL_pur (v := .tuple #[m3, .int .i64 (i4.2)]) (P_move rfl) .plain rfl ?_
  refine EL_pur (v := m3) (P_extract rfl rfl) .plain rfl ?_
  refine EL_pur (v := .int .i64 (i4.2)) (P_extract rfl rfl) .plain rfl ?_
  refine EL_pur (v := m3) (P_assign rfl) .plain rfl ?_
  refine EL_pur (v := .int .i64 (i4.2)) (P_assign rfl) .plain rfl ?_
  refine EL_nil (thn_n ?_)
  obtain ⟨d2, hx, h⟩ := bsome h
  refine E_joinD (fun e ds w => ∃ (g : Gh) , Fr gI wI g w ∧ MkF g w ds ∧ e 6 = p2 ∧ OB 2006 g w 39 (d2 : List FaultSight) p2 ∧ OSF 2006 60600 0 g w 56 39 (d2) p2) (fun Q' hQ => ?_) (fun d8 v7 x6 hR => ?_)
  ·replace h := hx
   clear hx
   refine E_seq (E_region (EL_do .plain rfl (D_loadO (g := r6) Try.isAgg36 Try.sizeOf36 d5 m2 fun x7 n5 => ?_)))
   refine EL_pur (v := m3) (P_move rfl) .plain rfl ?_
   obtain ⟨m5, y6, h⟩ := bsome h
   refine EL_do .plain rfl (D_call (g := r6) (vs := [x7, m3]) en56 (.cons rfl (.cons rfl .nil)) (wk56 n5 d4 y6) fun y8 l8 y7 hs hr => ?_)
   have hfr := hfr.ext hs
   have hmk := hmk.ext hs
   have i3 := i3.ext hs
   have u6_0_17 := u6_0_17.ext hs
   have j3 := j3.ext hs
   have m2 := m2.ext hs
   have n4 := n4.ext hs
   have d4 := d4.ext hs
   have n5 := n5.ext hs
   have s6 := hr
   refine EL_nil (thn_n (E_block ?_))
   have hB0 := hfr.size
   have hmk0 := hmk
   obtain ⟨m4, hφ, h⟩ := bsome h
   refine E_rangeFunc (σ := ((List FaultSight))) (s0 := (u3)) 10 rfl (fun _ => 0) [] (fun (s : (List FaultSight)) (g : Gh) (w : World) => Fr gI wI g w ∧ MkF g w c5 ∧ OB 2006 g w 39 (s : List FaultSight) p2 ∧ OSF 2006 60600 0 g w 56 39 (s) p2 ∧ OB 2008 g w 36 (y5.1 : List Str) p6 ∧ ItV Try.prog (RA2 (α := Int) (β := Int)) m5 y7 g.m w) rfl s6 hφ (fun _ _ _ _ => rfl) rfl ra2_size rfl (fun _ _ _ _ _ hx hR => by obtain ⟨hfr, hmk, z2, z3, z4, z5⟩ := hR; exact ⟨hfr.ist hx hB0, hmk.ist hx, z2.ist hx, z3.ist hx, z4.ist hx, z5.ist hx⟩) (fun _ _ _ _ _ hx hR => by obtain ⟨hfr, hmk, z2, z3, z4, z5⟩ := hR; exact ⟨hfr.stp hx, hmk.stp hx, z2.stp hx rfl, z3.stp hx rfl, z4.stp hx rfl, z5.stp hx⟩) ⟨hfr, hmk, j3, u6_0_17, m2, s6⟩ (fun _ h => by cases h) ?_ ?_
   ·intro e8 z7 s x b s2 x4 z6 vs hsz h hR hrec_0 i5 hrd
    obtain ⟨j4, hse⟩ : ∃ y, y = s := ⟨s, rfl⟩
    subst hse
    obtain ⟨hfr, hmk, j1, u6_0_128, i1, u0⟩ := hR
    obtain ⟨j0, n0⟩ := x
    obtain ⟨o5, p5, rfl, j5, l5⟩ := ra2_get hrd
    obtain rfl : o5 = .int .i64 (j0) := RV_int.1 j5
    obtain rfl : p5 = .int .i64 (n0) := RV_int.1 l5
    have m1 := RFr.refl x4 z6
    refine E_seq (E_region (EL_pur (v := .int .i64 (j0)) (P_assign rfl) .plain rfl ?_))
    refine EL_nil (thn_n (E_region (EL_pur (v := .int .i64 (n0)) (P_assign rfl) .plain rfl ?_)))
    refine EL_nil (thn_n ?_)
    obtain ⟨q5, hbr, hs, hrN⟩ := begin_round hrec_0 i5
    refine ⟨q5, hbr, ?_⟩
    have hfr := hfr.stp hs
    have hmk := hmk.stp hs
    have m1 := m1.stp hs
    have u6_0_128 := u6_0_128.stp hs rfl
    have j1 := j1.stp hs rfl
    have i1 := i1.stp hs rfl
    have u0 := u0.stp hs
    have hrec_0 := hrN
    clear hbr hs hrN
    refine E_block ?_
    refine L_loadOS (x := .tmp 6) Try.isAgg39 Try.sizeOf39 j1 u6_0_128 fun a7 d3 o130 e6 => ?_
    refine L_loadO0 (x := .tmp 8) Try.isAgg36 Try.sizeOf36 i1 fun r5 i2 i6 => ?_
    obtain ⟨q4, e5, h⟩ := bsome h
    have e3 := PT_idx i2 e5
    refine L_load (x := .tmp 39) Try.isAgg9 Try.sizeOf9 e3 fun m8 c7 j6 => ?_
    obtain rfl := RV_str.1 c7
    obtain ⟨o0, k6, h⟩ := bsome h
    have j2 : RV x4.m q5 (⟨j0, n0, (o0 == (120 : UInt8))⟩ : FaultSight) (.agg (setCh [[.int .i64 0], [.int .i64 0], [.bool false]] [(0, .int .i64 (j0)), (1, .int .i64 (n0)), (2, .bool ((o0 == (120 : UInt8))))]).flatten.toArray) := RV_build rfl (rep_pair (rfl) (rep_pair (rfl) (rep_last (rfl))))
    generalize l6 : (Value.agg (setCh [[.int .i64 0], [.int .i64 0], [.bool false]] [(0, .int .i64 (j0)), (1, .int .i64 (n0)), (2, .bool ((o0 == (120 : UInt8))))]).flatten.toArray) = t5 at j2
    refine E_drawL (g := x4) (n := 12) [(11, (fun v g w => RV g.m w ([(⟨j0, n0, (o0 == (120 : UInt8))⟩ : FaultSight)] : List FaultSight) v ∧ OS 3045 g w 56 ([(⟨j0, n0, (o0 == (120 : UInt8))⟩ : FaultSight)] : List FaultSight) v ∧ FullV v))] [0, 1, 2, 3, 4, 5, 6, 7, 8, 9, 10, 11] rfl mixed (by kernel_rfl) (⟨fun _ => up_and up_rv (up_and up_os (up_eq _)), trivial⟩) ?_
    refine L_ld (c := a7) rfl rfl .plain (fun _ _ h => ⟨h.ch, fun b hb _ => h.below.block b hb⟩) e6 c4 ?_
    refine L_pur (c := .int .i64 (j0)) rfl rfl .plain (fun _ _ hd => P_move rfl) ?_
    refine L_pur (c := .int .i64 (n0)) rfl rfl .plain (fun _ _ hd => P_move rfl) ?_
    refine L_ld (c := r5) rfl rfl .plain (fun _ _ h => ⟨h.ch, fun b hb _ => h.below.block b hb⟩) i6 d5 ?_
    refine L_pur (c := .int .i64 (j0)) rfl rfl .plain (fun _ _ hd => P_move rfl) ?_
    refine L_pur (c := ePtr r5 j0 1) rfl rfl .plain (fun _ _ hd => P_indexAddr (α := Str) Try.underlying36 Try.sizeOf9 rfl i2 rfl e5) ?_
    refine L_ld (c := Str.v (q4)) rfl rfl .plain (fun _ _ h => h.ch) j6 rfl ?_
    refine L_pur (c := .int .i64 (n0)) rfl rfl .plain (fun _ _ hd => P_move rfl) ?_
    refine L_pur (c := .int .u8 (UInt8.toNat (o0))) rfl rfl .plain (fun _ _ hd => P_indexS Try.underlying9 rfl rfl k6) ?_
    refine L_pur (c := .bool ((o0 == (120 : UInt8)))) rfl rfl .plain (fun _ _ hd => P_u8 rfl rfl rfl) ?_
    refine L_pur (c := t5) rfl rfl .plain (fun _ _ hd => l6 ▸ P_build (vs := [(0, .int .i64 (j0)), (1, .int .i64 (n0)), (2, .bool ((o0 == (120 : UInt8))))]) [[.int .i64 0], [.int .i64 0], [.bool false]] lay_56 rfl rfl (.cons rfl (.cons rfl (.cons rfl .nil))) ⟨⟨_, rfl, rfl⟩, ⟨⟨_, rfl, rfl⟩, ⟨⟨_, rfl, rfl⟩, trivial⟩⟩⟩) ?_
    refine L_do (φ := fun v g w => RV g.m w ([(⟨j0, n0, (o0 == (120 : UInt8))⟩ : FaultSight)] : List FaultSight) v ∧ OS 3045 g w 56 ([(⟨j0, n0, (o0 == (120 : UInt8))⟩ : FaultSight)] : List FaultSight) v ∧ FullV v) rfl rfl .plain (fun g w hd => D_buildSlice (g := g) 3045 (xs := ([(⟨j0, n0, (o0 == (120 : UInt8))⟩ : FaultSight)] : List FaultSight)) (vs := [t5]) Try.underlying39 Try.sizeOf56 Try.zeroValue56 rfl rfl (.cons rfl .nil) (RVs.cons (j2.ext hd.1) RVs.nil) rfl rfl fun g' w' v hs o r hxt hfl => ⟨g', hxt, r, o, hfl⟩) (fun o3 hv => ?_)
    clear hv
    refine L_nil fun d7 n8 hall => ?_
    have hs := hall.1
    have hfr := hfr.ext hs
    have hmk := hmk.ext hs
    have m1 := m1.ext hs
    have hrec_0 := hrec_0.ext hs
    have u6_0_128 := u6_0_128.ext hs
    have j1 := j1.ext hs
    have i1 := i1.ext hs
    have u0 := u0.ext hs
    have d3 := d3.ext hs
    have o130 := o130.ext hs
    have i2 := i2.ext hs
    have e3 := e3.ext hs
    have j2 := j2.ext hs
    have q3 := (word_all (A := fun g w => RV g.m w ([(⟨j0, n0, (o0 == (120 : UInt8))⟩ : FaultSight)] : List FaultSight) o3 ∧ OS 3045 g w 56 ([(⟨j0, n0, (o0 == (120 : UInt8))⟩ : FaultSight)] : List FaultSight) o3 ∧ FullV o3) 11 rfl hall).1
    have o157 := (word_all (A := fun g w => RV g.m w ([(⟨j0, n0, (o0 == (120 : UInt8))⟩ : FaultSight)] : List FaultSight) o3 ∧ OS 3045 g w 56 ([(⟨j0, n0, (o0 == (120 : UInt8))⟩ : FaultSight)] : List FaultSight) o3 ∧ FullV o3) 11 rfl hall).2.1
    clear hs hall
    obtain ⟨r4, m6, h⟩ := bsome h
    refine EL_do .plain rfl (D_append (g := d7) (i := 60600) Try.underlying39 info_56 rfl rfl o130 d3 rfl q3 m6 fun e7 o8 i7 hs o158 e4 _ => ?_)
    have hfr := hfr.stp hs
    have hmk := hmk.stp hs
    have m1 := m1.stp hs
    have hrec_0 := hrec_0.stp hs rfl
    have j1 := j1.stp hs rfl
    have i1 := i1.stp hs rfl
    have u0 := u0.stp hs
    have d3 := d3.stp hs
    have i2 := i2.stp hs
    have e3 := e3.stp hs
    have j2 := j2.stp hs
    have q3 := q3.stp hs
    have o157 := o157.stp hs rfl
    refine EL_do .plain rfl (D_storeOc (g := e7) (v := i7) Try.sizeOf39 c4 j1 rfl e4 fun j7 l7 hs b160 cb => ?_)
    have u5 : OSF 2006 60600 0 j7 l7 56 39 (r4 : List FaultSight) p2 := cb.osfr (rv_cells1 e4) (o158.stp hs rfl)
    clear cb
    have hfr := hfr.stp hs
    have hmk := hmk.stp hs
    have m1 := m1.stp hs
    have hrec_0 := hrec_0.stp hs rfl
    have i1 := i1.stp hs rfl
    have u0 := u0.stp hs
    have d3 := d3.stp hs
    have i2 := i2.stp hs
    have e3 := e3.stp hs
    have j2 := j2.stp hs
    have q3 := q3.stp hs
    have o157 := o157.stp hs rfl
    have e4 := e4.stp hs
    have o158 := o158.stp hs rfl
    refine EL_nil (blk_n ?_)
    obtain ⟨rfl, rfl⟩ := pairs2 h
    exact ⟨_, m1, ⟨hfr, hmk, b160, u5, i1, u0⟩, hrec_0, rfl, rfl⟩
   ·intro m7 p8 ds162 hsz hR hds
    obtain ⟨hfr, hmk, x5, u6_0_162, a8, q7⟩ := hR
    obtain ⟨D, hdse, hD, hDb⟩ := hds.1 rfl
    subst hdse
    replace hmk := MkF.push hmk0 hmk hD hDb
    clear hD hDb hds
    revert hmk
    generalize ({ target := .collected D, args := #[] } :: c5 : List Deferred) = b8
    intro hmk
    refine ⟨fun _ => ?_, fun k c hs _ => absurd hs (Nat.succ_ne_zero k).symm⟩
    refine blk_n ?_
    obtain rfl := Option.some.inj h
    exact hQ _ _ _ ⟨m7, hfr, hmk, c4, x5, u6_0_162⟩
  ·clear hx
   obtain ⟨a6, hfr, hmk, s3, o4, u6_0_163⟩ := hR
   refine E_seq (E_region (EL_do .plain rfl (D_loadOS (g := a6) Try.isAgg39 Try.sizeOf39 s3 o4 u6_0_163 fun n7 p3 o164 => ?_)))
   refine EL_do .plain rfl (D_storeOc (g := a6) (v := n7) Try.sizeOf39 s3 o4 rfl p3 fun o7 p7 hs b165 cb => ?_)
   have p4 : OSF 2006 60600 0 o7 p7 56 39 (d2 : List FaultSight) p2 := cb.osfr (rv_cells1 p3) (o164.stp hs rfl)
   clear cb
   have hfr := hfr.stp hs
   have hmk := hmk.stp hs
   have p3 := p3.stp hs
   have o164 := o164.stp hs rfl
   refine EL_pur (v := .int .i64 (0)) (P_assign rfl) .plain rfl ?_
   refine EL_nil (thn_n (E_ret (endM (.inr rfl) hmk fun q8 x6 hs => ?_)))
   have hfr := hfr.stp hs
   have p4 := p4.stp hs rfl
   have b165 := b165.stp hs rfl
   have p3 := p3.stp hs
   have o164 := o164.stp hs rfl
   obtain rfl := Option.some.inj h
   obtain ⟨ad167, cv167, hp167, n6, cr167⟩ := ob_read Try.isAgg39 Try.sizeOf39 b165
   exact endm_ct rfl rfl ((show _ = p2 from s3).trans hp167) n6 (show _ = .int .i64 (0) from rfl) ⟨_, hfr, _, _, rfl, cr167, rfl⟩
/-- griffe/fault.Can -/
def f32 (x0 : FaultLoom) (x1 : List FaultSight) : Option ((List FaultDamage) × Bool × Int) :=
 jn (σ := (List FaultDamage)) (fun j4 =>
  Option.bind (α := (List FaultDamage)) (
   ((fun σ cons s => f64 ((⟨x0⟩ : FaultFaultLoom)) σ cons s) ((List FaultDamage)) (fun m4 (n4, o5) =>
    (f65 o5 x1).bind fun p5 =>
    bif p5 then
     (apnd 40 m4 (([n4] : List FaultDamage))).bind fun e5 =>
     some (true, (e5))
    else
     some (true, (m4))
    ) (j4)).bind fun u4 =>
   some (u4)
   ) fun j2 =>
  (f55 ((⟨x0⟩ : FaultFaultLoom)) ([])).bind fun s3 =>
  (f65 s3 x1).bind fun u3 =>
  some (j2, u3, (0 : Int))
  ) fun e7 =>
 (f50 x0).bind fun i2 =>
 bif (i2 != (0 : Int)) then
  some ([], false, i2)
 else
  bif (decide (((x1).length : Int) > (60 : Int))) then
   some ([], false, (5 : Int))
  else
   (f63 x1 ((fun a0 => f61 a0 x0))).bind fun x4 =>
   bif x4 then
    some ([], false, (2 : Int))
   else
    e7 (([] : List FaultDamage))
theorem en32 : Enters Try.prog 32 := enters_of Try.func32 (by kernel_rfl) rfl
theorem wk32 {gI : Gh} {wI : World} {x0 : FaultLoom} {x1 : List FaultSight} {up0 : Value} (rp0 : RV gI.m wI x0 up0) {up1 : Value} (rp1 : RV gI.m wI x1 up1) {r : (List FaultDamage) × Bool × Int} (h : f32 x0 x1 = some r) : Fn Try.prog 32 #[up0, up1] gI wI (fun m w v => ∃ y0 y1 y2, v = .tuple #[y0, y1, y2] ∧ RV m w (r.1) y0 ∧ y1 = .bool (r.2.1) ∧ y2 = .int .i64 (r.2.2)) := by
 unfold f32 at h
 refine fnD_of_E Try.func32 rfl (Nat.le_of_ble_eq_true rfl) fun g0 hm hfr => ?_
 have hmk : MkF g0 wI [] := MkF.start
 have rp0 : RV g0.m wI x0 up0 := hm ▸ rp0
 have rp1 : RV g0.m wI x1 up1 := hm ▸ rp1
 show E _ 44 none _ _ _ _ _
 refine E_seq (E_region (EL_do .plain rfl (D_box (g := g0) rfl rp0 fun g1 w1 p1 hs q1 => ?_)))
 have hfr := hfr.ext hs
 have hmk := hmk.ext hs
 have rp0 := rp0.ext hs
 have rp1 := rp1.ext hs
 refine EL_do .plain rfl (D_box (g := g1) rfl rp1 fun g2 w2 p2 hs q2 => ?_)
 have hfr := hfr.ext hs
 have hmk := hmk.ext hs
 have rp0 := rp0.ext hs
 have rp1 := rp1.ext hs
 have q1 := q1.ext hs
 refine EL_do .plain rfl (D_allocOc (g := g2) 2004 ([] : List FaultDamage) Try.zeroValue29 (fun m w => ⟨_, rep_nil, rfl⟩) fun g3 w3 p3 hs b3 cb => ?_)
 have hfr := hfr.stp hs
 have hmk := hmk.stp hs
 have rp0 := rp0.stp hs
 have rp1 := rp1.stp hs
 have q1 := q1.stp hs
 have q2 := q2.stp hs
 have c4 : OSF 2004 60400 0 g3 w3 62 29 ([] : List FaultDamage) p3 := cb.osf (by rfl)
 clear cb
 refine EL_pur (v := .bool false) (P_assign rfl) .plain rfl ?_
 refine EL_pur (v := .int .i64 (0)) (P_assign rfl) .plain rfl ?_
 refine EL_nil (thn_n (E_seq (E_region (EL_pur (v := (.func (.func 61) #[] #[p1])) (P_makeFunc (capf_0_1 (show ev _ _ = p1 from rfl))) .plain rfl ?_))))
 refine EL_pur (v := (.func (.func 61) #[] #[p1])) (P_assign rfl) .plain rfl ?_
 refine EL_nil (thn_n (E_joinCD h (fun (s : (List FaultDamage)) e ds w => ∃ (g : Gh) , Fr gI wI g w ∧ MkF g w ds ∧ e 2 = p1 ∧ PT g.m w (x0 : FaultLoom) p1 ∧ e 3 = p2 ∧ PT g.m w (x1 : List FaultSight) p2 ∧ e 4 = p3 ∧ OB 2004 g w 29 (s : List FaultDamage) p3 ∧ OSF 2004 60400 0 g w 62 29 (s) p3) (fun X23 e7 n7 h => ?_) ?_))
 ·refine E_seq (E_region (EL_do .plain rfl (D_load (g := g3) Try.isAgg28 Try.sizeOf28 rfl q1 fun j8 m1 => ?_)))
  obtain ⟨i2, o7, h⟩ := bsome h
  refine EL_do .plain rfl (D_call (g := g3) (vs := [j8]) en50 (.cons rfl .nil) (wk50 m1 o7) fun b5 d9 s9 hs hr => ?_)
  have hfr := hfr.ext hs
  have hmk := hmk.ext hs
  have rp0 := rp0.ext hs
  have rp1 := rp1.ext hs
  have q1 := q1.ext hs
  have q2 := q2.ext hs
  have c4 := c4.ext hs
  have b3 := b3.ext hs
  have m1 := m1.ext hs
  subst hr
  refine EL_pur (v := .int .i64 (i2)) (P_assign rfl) .plain rfl ?_
  refine EL_nil (thn_n (E_block ?_))
  refine E_seq (E_region (EL_pur (v := .int .i64 (i2)) (P_move rfl) .plain rfl ?_))
  refine EL_pur (v := .bool ((i2 != (0 : Int)))) (P_int rfl rfl rfl) .plain rfl ?_
  refine EL_pur (v := .bool ((i2 != (0 : Int)))) (P_assign rfl) .plain rfl ?_
  refine EL_nil (thn_n ?_)
  rcases csome h with ⟨i5, h⟩ | ⟨i5, h⟩
  ·refine E_cond_true (Eq.trans (show ev _ _ = .bool ((i2 != (0 : Int))) from rfl) (congrArg Value.bool i5)) ?_
   refine E_seq (E_region (EL_pur (v := .int .i64 (i2)) (P_move rfl) .plain rfl ?_))
   refine EL_do .plain rfl (D_storeOc (g := b5) (v := .slice none 0 0) Try.sizeOf29 rfl b3 rfl RV_nil fun k8 l8 hs b28 cb => ?_)
   have q5 : OSF 2004 60400 0 k8 l8 62 29 ([] : List FaultDamage) p3 := cb.osfr (rfl) OS.nil
   clear cb
   have hfr := hfr.stp hs
   have hmk := hmk.stp hs
   have rp0 := rp0.stp hs
   have rp1 := rp1.stp hs
   have q1 := q1.stp hs
   have q2 := q2.stp hs
   have m1 := m1.stp hs
   refine EL_pur (v := .bool false) (P_assign rfl) .plain rfl ?_
   refine EL_pur (v := .int .i64 (i2)) (P_assign rfl) .plain rfl ?_
   refine EL_nil (thn_n (E_ret (blk_r ?_)))
   refine thn_r ?_
   refine endM (.inr rfl) hmk fun t9 u9 hs => ?_
   have hfr := hfr.stp hs
   have rp0 := rp0.stp hs
   have rp1 := rp1.stp hs
   have q1 := q1.stp hs
   have q2 := q2.stp hs
   have q5 := q5.stp hs rfl
   have b28 := b28.stp hs rfl
   have m1 := m1.stp hs
   obtain rfl := Option.some.inj h
   obtain ⟨ad30, cv30, hp30, p7, cr30⟩ := ob_read Try.isAgg29 Try.sizeOf29 b28
   exact endm_ctt rfl rfl ((show _ = p3 from rfl).trans hp30) p7 (show _ = .bool false from rfl) (show _ = .int .i64 (i2) from rfl) ⟨_, hfr, _, _, _, rfl, cr30, rfl, rfl⟩
  ·refine E_cond_false (Eq.trans (show ev _ _ = .bool ((i2 != (0 : Int))) from rfl) (congrArg Value.bool i5)) ?_
   refine E_seq (E_region (EL_do .plain rfl (D_load (g := b5) Try.isAgg39 Try.sizeOf39 rfl q2 fun v9 m2 => ?_)))
   refine EL_pur (v := .int .i64 ((x1).length : Int)) (P_len Try.underlying39 rfl m2) .plain rfl ?_
   refine EL_pur (v := .bool ((decide (((x1).length : Int) > (60 : Int))))) (P_int rfl rfl rfl) .plain rfl ?_
   refine EL_pur (v := .bool ((decide (((x1).length : Int) > (60 : Int))))) (P_assign rfl) .plain rfl ?_
   refine EL_nil (thn_n ?_)
   rcases csome h with ⟨j5, h⟩ | ⟨j5, h⟩
   ·refine E_cond_true (Eq.trans (show ev _ _ = .bool ((decide (((x1).length : Int) > (60 : Int)))) from rfl) (congrArg Value.bool j5)) ?_
    refine E_seq (E_region (EL_do .plain rfl (D_storeOc (g := b5) (v := .slice none 0 0) Try.sizeOf29 rfl b3 rfl RV_nil fun m8 n8 hs b33 cb => ?_)))
    have r5 : OSF 2004 60400 0 m8 n8 62 29 ([] : List FaultDamage) p3 := cb.osfr (rfl) OS.nil
    clear cb
    have hfr := hfr.stp hs
    have hmk := hmk.stp hs
    have rp0 := rp0.stp hs
    have rp1 := rp1.stp hs
    have q1 := q1.stp hs
    have q2 := q2.stp hs
    have m1 := m1.stp hs
    have m2 := m2.stp hs
    refine EL_pur (v := .bool false) (P_assign rfl) .plain rfl ?_
    refine EL_pur (v := .int .i64 (5)) (P_assign rfl) .plain rfl ?_
    refine EL_nil (thn_n (E_ret (blk_r ?_)))
    refine thn_r ?_
    refine endM (.inr rfl) hmk fun x9 y9 hs => ?_
    have hfr := hfr.stp hs
    have rp0 := rp0.stp hs
    have rp1 := rp1.stp hs
    have q1 := q1.stp hs
    have q2 := q2.stp hs
    have r5 := r5.stp hs rfl
    have b33 := b33.stp hs rfl
    have m1 := m1.stp hs
    have m2 := m2.stp hs
    obtain rfl := Option.some.inj h
    obtain ⟨ad35, cv35, hp35, q7, cr35⟩ := ob_read Try.isAgg29 Try.sizeOf29 b33
    exact endm_ctt rfl rfl ((show _ = p3 from rfl).trans hp35) q7 (show _ = .bool false from rfl) (show _ = .int .i64 (5) from rfl) ⟨_, hfr, _, _, _, rfl, cr35, rfl, rfl⟩
   ·refine E_cond_false (Eq.trans (show ev _ _ = .bool ((decide (((x1).length : Int) > (60 : Int)))) from rfl) (congrArg Value.bool j5)) ?_
    refine E_seq (E_region (EL_do .plain rfl (D_load (g := b5) Try.isAgg39 Try.sizeOf39 rfl q2 fun o8 d4 => ?_)))
    refine EL_pur (v := (.func (.func 61) #[] #[p1])) (P_move rfl) .plain rfl ?_
    obtain ⟨x4, r7, h⟩ := bsome h
    refine EL_do .plain rfl (D_call (g := b5) (vs := [o8, (.func (.func 61) #[] #[p1])]) en63 (.cons rfl (.cons rfl .nil)) (wk63 d4 ⟨61, #[], #[p1], rfl, en61, fun g' w' hch a0 b0 r hu0 hr => by exact Fn.mono (wk61 hu0 (q1.ch hch) hr) fun _ _ _ h => RV_bool.2 h⟩ r7) fun g7 e9 z9 hs hr => ?_)
    have hfr := hfr.ext hs
    have hmk := hmk.ext hs
    have rp0 := rp0.ext hs
    have rp1 := rp1.ext hs
    have q1 := q1.ext hs
    have q2 := q2.ext hs
    have c4 := c4.ext hs
    have b3 := b3.ext hs
    have m1 := m1.ext hs
    have m2 := m2.ext hs
    have d4 := d4.ext hs
    subst hr
    refine EL_pur (v := .bool (x4)) (P_assign rfl) .plain rfl ?_
    refine EL_nil (thn_n ?_)
    rcases csome h with ⟨l5, h⟩ | ⟨l5, h⟩
    ·refine E_cond_true (Eq.trans (show ev _ _ = .bool (x4) from rfl) (congrArg Value.bool l5)) ?_
     refine E_seq (E_region (EL_do .plain rfl (D_storeOc (g := g7) (v := .slice none 0 0) Try.sizeOf29 rfl b3 rfl RV_nil fun p8 q8 hs b40 cb => ?_)))
     have t5 : OSF 2004 60400 0 p8 q8 62 29 ([] : List FaultDamage) p3 := cb.osfr (rfl) OS.nil
     clear cb
     have hfr := hfr.stp hs
     have hmk := hmk.stp hs
     have rp0 := rp0.stp hs
     have rp1 := rp1.stp hs
     have q1 := q1.stp hs
     have q2 := q2.stp hs
     have m1 := m1.stp hs
     have m2 := m2.stp hs
     have d4 := d4.stp hs
     refine EL_pur (v := .bool false) (P_assign rfl) .plain rfl ?_
     refine EL_pur (v := .int .i64 (2)) (P_assign rfl) .plain rfl ?_
     refine EL_nil (thn_n (E_ret (blk_r ?_)))
     refine thn_r ?_
     refine endM (.inr rfl) hmk fun aA bA hs => ?_
     have hfr := hfr.stp hs
     have rp0 := rp0.stp hs
     have rp1 := rp1.stp hs
     have q1 := q1.stp hs
     have q2 := q2.stp hs
     have t5 := t5.stp hs rfl
     have b40 := b40.stp hs rfl
     have m1 := m1.stp hs
     have m2 := m2.stp hs
     have d4 := d4.stp hs
     obtain rfl := Option.some.inj h
     obtain ⟨ad42, cv42, hp42, s7, cr42⟩ := ob_read Try.isAgg29 Try.sizeOf29 b40
     exact endm_ctt rfl rfl ((show _ = p3 from rfl).trans hp42) s7 (show _ = .bool false from rfl) (show _ = .int .i64 (2) from rfl) ⟨_, hfr, _, _, _, rfl, cr42, rfl, rfl⟩
    ·refine E_cond_false (Eq.trans (show ev _ _ = .bool (x4) from rfl) (congrArg Value.bool l5)) ?_
     exact E_skip (blk_n (thn_n (n7 (([] : List FaultDamage)) _ _ _ ⟨g7, hfr, hmk, rfl, q1, rfl, q2, rfl, b3, c4⟩ h)))
 ·rintro j4 g9 u5 r8 ⟨b6, hfr, hmk, x5, y5, a6, s6, o4, t6, u4_0_43⟩ h
  obtain ⟨j2, hx, h⟩ := bsome h
  refine E_joinD (fun e ds w => ∃ (g : Gh) , Fr gI wI g w ∧ MkF g w ds ∧ e 2 = p1 ∧ PT g.m w (x0 : FaultLoom) p1 ∧ e 3 = p2 ∧ PT g.m w (x1 : List FaultSight) p2 ∧ e 4 = p3 ∧ OB 2004 g w 29 (j2 : List FaultDamage) p3 ∧ OSF 2004 60400 0 g w 62 29 (j2) p3) (fun Q' hQ => ?_) (fun b9 t8 t7 hR => ?_)
  ·replace h := hx
   clear hx
   refine E_seq (E_region (EL_do .plain rfl (D_load (g := b6) Try.isAgg28 Try.sizeOf28 x5 y5 fun c6 i7 => ?_)))
   have j7 : RV b6.m _ (⟨x0⟩ : FaultFaultLoom) (.agg (setCh [[.int .i64 0, .slice none 0 0, .int .i64 0, .slice none 0 0]] [(0, c6)]).flatten.toArray) := RV_build rfl (rep_last (RV.cells i7))
   generalize u7 : (Value.agg (setCh [[.int .i64 0, .slice none 0 0, .int .i64 0, .slice none 0 0]] [(0, c6)]).flatten.toArray) = c5 at j7
   refine EL_pur (v := c5) (u7 ▸ P_build (vs := [(0, c6)]) [[.int .i64 0, .slice none 0 0, .int .i64 0, .slice none 0 0]] lay_98 rfl rfl (.cons rfl .nil) ⟨⟨_, rfl, cells_size i7⟩, trivial⟩) .plain rfl ?_
   refine EL_pur (v := (.func (.func 64) #[c5] #[])) (P_makeFunc (capf_1_0 (show ev _ _ = c5 from rfl))) .plain rfl ?_
   refine EL_nil (thn_n (E_block ?_))
   have hB0 := hfr.size
   have hmk0 := hmk
   obtain ⟨u4, hφ, h⟩ := bsome h
   refine E_rangeFunc (σ := ((List FaultDamage))) (s0 := (j4)) 10 rfl (fun _ => 0) [] (fun (s : (List FaultDamage)) (g : Gh) (w : World) => Fr gI wI g w ∧ MkF g w u5 ∧ PT g.m w (x0 : FaultLoom) p1 ∧ PT g.m w (x1 : List FaultSight) p2 ∧ OB 2004 g w 29 (s : List FaultDamage) p3 ∧ OSF 2004 60400 0 g w 62 29 (s) p3) rfl (show ItV Try.prog (RA2 (α := FaultDamage) (β := (List Str))) (fun σ cons s => f64 ((⟨x0⟩ : FaultFaultLoom)) σ cons s) ((.func (.func 64) #[c5] #[])) b6.m r8 from ⟨64, #[c5], #[], rfl, en64, fun g' w' hch σ cons s s' h => wk64 (j7.ch hch)  h⟩) hφ (fun _ _ _ _ => rfl) rfl ra2_size rfl (fun _ _ _ _ _ hx hR => by obtain ⟨hfr, hmk, z2, z3, z4, z5⟩ := hR; exact ⟨hfr.ist hx hB0, hmk.ist hx, z2.ist hx, z3.ist hx, z4.ist hx, z5.ist hx⟩) (fun _ _ _ _ _ hx hR => by obtain ⟨hfr, hmk, z2, z3, z4, z5⟩ := hR; exact ⟨hfr.stp hx, hmk.stp hx, z2.stp hx, z3.stp hx, z4.stp hx rfl, z5.stp hx rfl⟩) ⟨hfr, hmk, y5, s6, t6, u4_0_43⟩ (fun _ h => by cases h) ?_ ?_
   ·intro i9 c9 s x b s2 l7 v8 vs hsz h hR hrec_0 d6 hrd
    obtain ⟨m4, hse⟩ : ∃ y, y = s := ⟨s, rfl⟩
    subst hse
    obtain ⟨hfr, hmk, u0, o0, j1, u4_0_92⟩ := hR
    obtain ⟨n4, o5⟩ := x
    obtain ⟨u6, p4, rfl, j0, n0⟩ := ra2_get hrd
    have i1 := RFr.refl l7 v8
    refine E_seq (E_region (EL_do .plain rfl (D_allocOc (g := l7) 2009 (⟨0, 0, 0, 0, false⟩ : FaultDamage) Try.zeroValue62 (fun m w => ⟨_, (rep_two rep_int (rep_two rep_int (rep_two rep_int (rep_two rep_int rep_bool)))), rfl⟩) fun x8 cA dA hs b93 cb => ?_)))
    have hfr := hfr.stp hs
    have hmk := hmk.stp hs
    have i1 := i1.stp hs
    have hrec_0 := hrec_0.stp hs rfl
    have u0 := u0.stp hs
    have o0 := o0.stp hs
    have u4_0_92 := u4_0_92.stp hs rfl
    have j1 := j1.stp hs rfl
    have j0 := j0.stp hs
    have n0 := n0.stp hs
    clear cb
    refine EL_do .plain rfl (D_storeOc (g := x8) (v := u6) Try.sizeOf62 rfl b93 rfl j0 fun m7 eA hs b94 cb => ?_)
    clear cb
    have hfr := hfr.stp hs
    have hmk := hmk.stp hs
    have i1 := i1.stp hs
    have hrec_0 := hrec_0.stp hs rfl
    have u0 := u0.stp hs
    have o0 := o0.stp hs
    have u4_0_92 := u4_0_92.stp hs rfl
    have j1 := j1.stp hs rfl
    have j0 := j0.stp hs
    have n0 := n0.stp hs
    refine EL_nil (thn_n (E_region (EL_pur (v := p4) (P_assign rfl) .plain rfl ?_)))
    refine EL_nil (thn_n ?_)
    obtain ⟨y8, hbr, hs, hrN⟩ := begin_round hrec_0 d6
    refine ⟨y8, hbr, ?_⟩
    have hfr := hfr.stp hs
    have hmk := hmk.stp hs
    have i1 := i1.stp hs
    have u0 := u0.stp hs
    have o0 := o0.stp hs
    have u4_0_92 := u4_0_92.stp hs rfl
    have j1 := j1.stp hs rfl
    have j0 := j0.stp hs
    have n0 := n0.stp hs
    have b94 := b94.stp hs rfl
    have hrec_0 := hrN
    clear hbr hs hrN
    refine E_block ?_
    refine E_seq (E_region (EL_pur (v := p4) (P_move rfl) .plain rfl ?_))
    refine EL_do .plain rfl (D_load (g := m7) Try.isAgg39 Try.sizeOf39 a6 o0 fun z8 q3 => ?_)
    obtain ⟨p5, v7, h⟩ := bsome h
    refine EL_do .plain rfl (D_call (g := m7) (vs := [p4, z8]) en65 (.cons rfl (.cons rfl .nil)) (wk65 n0 q3 v7) fun e6 j9 gA hs hr => ?_)
    have hfr := hfr.ext hs
    have hmk := hmk.ext hs
    have i1 := i1.ext hs
    have hrec_0 := hrec_0.ext hs
    have u0 := u0.ext hs
    have o0 := o0.ext hs
    have u4_0_92 := u4_0_92.ext hs
    have j1 := j1.ext hs
    have j0 := j0.ext hs
    have n0 := n0.ext hs
    have b94 := b94.ext hs
    have q3 := q3.ext hs
    subst hr
    refine EL_nil (thn_n ?_)
    rcases csome h with ⟨m5, h⟩ | ⟨m5, h⟩
    ·refine E_cond_true (Eq.trans (show ev _ _ = .bool (p5) from rfl) (congrArg Value.bool m5)) ?_
     refine E_region (EL_do .plain rfl (D_loadOS (g := e6) Try.isAgg29 Try.sizeOf29 o4 j1 u4_0_92 fun k9 j3 o100 => ?_))
     refine EL_do .plain rfl (D_loadO (g := e6) Try.isAgg62 Try.sizeOf62 rfl b94 fun x7 m3 => ?_)
     refine EL_do .plain rfl (D_buildSlice (g := e6) 3036 (xs := ([n4] : List FaultDamage)) (vs := [x7]) Try.underlying29 Try.sizeOf62 Try.zeroValue62 rfl rfl (.cons rfl .nil) (RVs.cons m3 RVs.nil) rfl rfl fun y7 l9 m9 hs o102 e4 hxt hfl => ?_)
     have hfr := hfr.stp hs
     have hmk := hmk.stp hs
     have i1 := i1.stp hs
     have hrec_0 := hrec_0.stp hs rfl
     have u0 := u0.stp hs
     have o0 := o0.stp hs
     have u4_0_92 := u4_0_92.stp hs rfl
     have j1 := j1.stp hs rfl
     have j0 := j0.stp hs
     have n0 := n0.stp hs
     have b94 := b94.stp hs rfl
     have q3 := q3.stp hs
     have j3 := j3.stp hs
     have o100 := o100.stp hs rfl
     have m3 := m3.stp hs
     obtain ⟨e5, v6, h⟩ := bsome h
     refine EL_do .plain rfl (D_append (g := y7) (i := 60400) Try.underlying29 info_62 rfl rfl o100 j3 rfl e4 v6 fun z7 n9 a8 hs o103 q4 _ => ?_)
     have hfr := hfr.stp hs
     have hmk := hmk.stp hs
     have i1 := i1.stp hs
     have hrec_0 := hrec_0.stp hs rfl
     have u0 := u0.stp hs
     have o0 := o0.stp hs
     have j1 := j1.stp hs rfl
     have j0 := j0.stp hs
     have n0 := n0.stp hs
     have b94 := b94.stp hs rfl
     have q3 := q3.stp hs
     have j3 := j3.stp hs
     have m3 := m3.stp hs
     have e4 := e4.stp hs
     have o102 := o102.stp hs rfl
     refine EL_do .plain rfl (D_storeOc (g := z7) (v := a8) Try.sizeOf29 o4 j1 rfl q4 fun b8 c8 hs b105 cb => ?_)
     have i6 : OSF 2004 60400 0 b8 c8 62 29 (e5 : List FaultDamage) p3 := cb.osfr (rv_cells1 q4) (o103.stp hs rfl)
     clear cb
     have hfr := hfr.stp hs
     have hmk := hmk.stp hs
     have i1 := i1.stp hs
     have hrec_0 := hrec_0.stp hs rfl
     have u0 := u0.stp hs
     have o0 := o0.stp hs
     have j0 := j0.stp hs
     have n0 := n0.stp hs
     have b94 := b94.stp hs rfl
     have q3 := q3.stp hs
     have j3 := j3.stp hs
     have m3 := m3.stp hs
     have e4 := e4.stp hs
     have o102 := o102.stp hs rfl
     have q4 := q4.stp hs
     have o103 := o103.stp hs rfl
     refine EL_nil (blk_n ?_)
     obtain ⟨rfl, rfl⟩ := pairs2 h
     exact ⟨_, i1, ⟨hfr, hmk, u0, o0, b105, i6⟩, hrec_0, rfl, rfl⟩
    ·refine E_cond_false (Eq.trans (show ev _ _ = .bool (p5) from rfl) (congrArg Value.bool m5)) ?_
     refine E_skip (blk_n ?_)
     obtain ⟨rfl, rfl⟩ := pairs2 h
     exact ⟨_, i1, ⟨hfr, hmk, u0, o0, j1, u4_0_92⟩, hrec_0, rfl, rfl⟩
   ·intro d8 o9 ds107 hsz hR hds
    obtain ⟨hfr, hmk, j6, k6, l6, u4_0_107⟩ := hR
    obtain ⟨D, hdse, hD, hDb⟩ := hds.1 rfl
    subst hdse
    replace hmk := MkF.push hmk0 hmk hD hDb
    clear hD hDb hds
    revert hmk
    generalize ({ target := .collected D, args := #[] } :: u5 : List Deferred) = a9
    intro hmk
    refine ⟨fun _ => ?_, fun k c hs _ => absurd hs (Nat.succ_ne_zero k).symm⟩
    refine blk_n ?_
    obtain rfl := Option.some.inj h
    exact hQ _ _ _ ⟨d8, hfr, hmk, x5, j6, a6, k6, o4, l6, u4_0_107⟩
  ·clear hx
   obtain ⟨m6, hfr, hmk, n6, z1, o6, d2, i4, r3, u4_0_108⟩ := hR
   refine E_seq (L_loadOS (x := .tmp 4) Try.isAgg29 Try.sizeOf29 r3 u4_0_108 fun p6 d3 o109 x6 => ?_)
   refine L_load (x := .tmp 2) Try.isAgg28 Try.sizeOf28 z1 fun r4 e3 y6 => ?_
   have i3 : RV m6.m _ (⟨x0⟩ : FaultFaultLoom) (.agg (setCh [[.int .i64 0, .slice none 0 0, .int .i64 0, .slice none 0 0]] [(0, r4)]).flatten.toArray) := RV_build rfl (rep_last (RV.cells e3))
   generalize z6 : (Value.agg (setCh [[.int .i64 0, .slice none 0 0, .int .i64 0, .slice none 0 0]] [(0, r4)]).flatten.toArray) = q6 at i3
   obtain ⟨s3, a7, h⟩ := bsome h
   refine L_load (x := .tmp 3) Try.isAgg39 Try.sizeOf39 d2 fun r6 o3 b7 => ?_
   obtain ⟨u3, c7, h⟩ := bsome h
   refine E_drawL (g := m6) (n := 6) [(3, (fun v g w => RV g.m w s3 v)), (5, (fun v g w => v = .bool (u3)))] [0, 1, 2, 3, 4, 5] rfl mixed (by kernel_rfl) (⟨fun _ => up_rv, fun _ => up_eq _, trivial⟩) ?_
   refine L_ld (c := p6) rfl rfl .plain (fun _ _ h => ⟨h.ch, fun b hb _ => h.below.block b hb⟩) x6 i4 ?_
   refine L_ld (c := r4) rfl rfl .plain (fun _ _ h => h.ch) y6 n6 ?_
   refine L_pur (c := q6) rfl rfl .plain (fun _ _ hd => z6 ▸ P_build (vs := [(0, r4)]) [[.int .i64 0, .slice none 0 0, .int .i64 0, .slice none 0 0]] lay_98 rfl rfl (.cons rfl .nil) ⟨⟨_, rfl, cells_size e3⟩, trivial⟩) ?_
   refine L_do (φ := fun v g w => RV g.m w s3 v) rfl rfl .plain (fun g w hd => D_call (g := g) (vs := [q6, .slice none 0 0]) en55 (.cons rfl (.cons rfl .nil)) (wk55 (i3.ext hd.1) RV_nil a7) fun g' w' v hs hr => ⟨g', hs, hr⟩) (fun n5 hv => ?_)
   obtain ⟨_, _, _, rq112⟩ := hv
   refine L_ld (c := r6) rfl rfl .plain (fun _ _ h => h.ch) b7 o6 ?_
   refine L_do (φ := fun v g w => v = .bool (u3)) rfl rfl .plain (fun g w hd => D_call (g := g) (vs := [n5, r6]) en65 (.cons rfl (.cons rfl .nil)) (wk65 (word (A := fun g w => RV g.m w s3 n5) 3 rfl rfl (deps_of hd)) (o3.ext hd.1) c7) fun g' w' v hs hr => ⟨g', hs, hr⟩) (fun p9 hv => ?_)
   obtain ⟨_, _, _, rfl⟩ := hv
   refine L_nil fun e8 q9 hall => ?_
   have hs := hall.1
   have hfr := hfr.ext hs
   have hmk := hmk.ext hs
   have z1 := z1.ext hs
   have d2 := d2.ext hs
   have u4_0_108 := u4_0_108.ext hs
   have r3 := r3.ext hs
   have d3 := d3.ext hs
   have o109 := o109.ext hs
   have e3 := e3.ext hs
   have i3 := i3.ext hs
   have o3 := o3.ext hs
   have s4 := (word_all (A := fun g w => RV g.m w s3 n5) 3 rfl hall)
   clear hs hall
   refine EL_do .plain rfl (D_storeOc (g := e8) (v := p6) Try.sizeOf29 i4 r3 rfl d3 fun g8 i8 hs b127 cb => ?_)
   have d5 : OSF 2004 60400 0 g8 i8 62 29 (j2 : List FaultDamage) p3 := cb.osfr (rv_cells1 d3) (o109.stp hs rfl)
   clear cb
   have hfr := hfr.stp hs
   have hmk := hmk.stp hs
   have z1 := z1.stp hs
   have d2 := d2.stp hs
   have d3 := d3.stp hs
   have o109 := o109.stp hs rfl
   have e3 := e3.stp hs
   have i3 := i3.stp hs
   have s4 := s4.stp hs
   have o3 := o3.stp hs
   refine EL_pur (v := .bool (u3)) (P_assign rfl) .plain rfl ?_
   refine EL_pur (v := .int .i64 (0)) (P_assign rfl) .plain rfl ?_
   refine EL_nil (thn_n (E_ret (endM (.inr rfl) hmk fun r9 t7 hs => ?_)))
   have hfr := hfr.stp hs
   have z1 := z1.stp hs
   have d2 := d2.stp hs
   have d5 := d5.stp hs rfl
   have b127 := b127.stp hs rfl
   have d3 := d3.stp hs
   have o109 := o109.stp hs rfl
   have e3 := e3.stp hs
   have i3 := i3.stp hs
   have s4 := s4.stp hs
   have o3 := o3.stp hs
   obtain rfl := Option.some.inj h
   obtain ⟨ad129, cv129, hp129, d7, cr129⟩ := ob_read Try.isAgg29 Try.sizeOf29 b127
   exact endm_ctt rfl rfl ((show _ = p3 from i4).trans hp129) d7 (show _ = .bool (u3) from rfl) (show _ = .int .i64 (0) from rfl) ⟨_, hfr, _, _, _, rfl, cr129, rfl, rfl⟩
/-- griffe/fault.Tell -/
def f37 (x0 : FaultLoom) (x1 : FaultDamage) (x2 : FaultDamage) : Option (Int × Int × Int) :=
 jn (σ := Int × Int × Int) (fun (o4, q4, r4) =>
  jn (σ := Int × Int × Int) (fun (j6, k6, l6) =>
   some ((0 : Int), (0 : Int), (7 : Int))
   ) fun m7 =>
  (f55 ((⟨x0⟩ : FaultFaultLoom)) (([x1] : List FaultDamage))).bind fun i4 =>
  (f55 ((⟨x0⟩ : FaultFaultLoom)) (([x2] : List FaultDamage))).bind fun j4 =>
  (f56 i4 j4).bind fun m4 =>
  (m4 (Nat × Int × Int × Int) (guardC fun (m6, n6, o6) (u0, i1) =>
   some (false, ((1 : Nat), (u0, i1, (0 : Int))))
   ) (0, (o4, q4, r4))).bind fun (i3, (j3, m3, o3)) =>
  bif Nat.beq i3 0 then
   m7 (j3, m3, o3)
  else
   some (j3, m3, o3)
  ) fun n7 =>
 (f18 x0 (([x1, x2] : List FaultDamage))).bind fun m2 =>
 bif (m2 != (0 : Int)) then
  some ((0 : Int), (0 : Int), m2)
 else
  n7 ((0 : Int), (0 : Int), (0 : Int))
theorem en37 : Enters Try.prog 37 := enters_of Try.func37 (by kernel_rfl) rfl
theorem wk37 {gI : Gh} {wI : World} {x0 : FaultLoom} {x1 : FaultDamage} {x2 : FaultDamage} {up0 : Value} (rp0 : RV gI.m wI x0 up0) {up1 : Value} (rp1 : RV gI.m wI x1 up1) {up2 : Value} (rp2 : RV gI.m wI x2 up2) {r : Int × Int × Int} (h : f37 x0 x1 x2 = some r) : Fn Try.prog 37 #[up0, up1, up2] gI wI (fun m w v => ∃ y0 y1 y2, v = .tuple #[y0, y1, y2] ∧ y0 = .int .i64 (r.1) ∧ y1 = .int .i64 (r.2.1) ∧ y2 = .int .i64 (r.2.2)) := by
 unfold f37 at h
 refine fnD_of_E Try.func37 rfl (Nat.le_of_ble_eq_true rfl) fun g0 hm hfr => ?_
 have hmk : MkF g0 wI [] := MkF.start
 have rp0 : RV g0.m wI x0 up0 := hm ▸ rp0
 have rp1 : RV g0.m wI x1 up1 := hm ▸ rp1
 have rp2 : RV g0.m wI x2 up2 := hm ▸ rp2
 show E _ 35 none _ _ _ _ _
 refine E_seq (E_region (EL_do .plain rfl (D_box (g := g0) rfl rp0 fun g1 w1 p1 hs q1 => ?_)))
 have hfr := hfr.ext hs
 have hmk := hmk.ext hs
 have rp0 := rp0.ext hs
 have rp1 := rp1.ext hs
 have rp2 := rp2.ext hs
 refine EL_do .plain rfl (D_box (g := g1) rfl rp1 fun g2 w2 p2 hs q2 => ?_)
 have hfr := hfr.ext hs
 have hmk := hmk.ext hs
 have rp0 := rp0.ext hs
 have rp1 := rp1.ext hs
 have rp2 := rp2.ext hs
 have q1 := q1.ext hs
 refine EL_do .plain rfl (D_box (g := g2) rfl rp2 fun g3 w3 p3 hs q3 => ?_)
 have hfr := hfr.ext hs
 have hmk := hmk.ext hs
 have rp0 := rp0.ext hs
 have rp1 := rp1.ext hs
 have rp2 := rp2.ext hs
 have q1 := q1.ext hs
 have q2 := q2.ext hs
 refine EL_do .plain rfl (D_allocOc (g := g3) 2006 (0 : Int) Try.zeroValue3 (fun m w => ⟨_, rep_int, rfl⟩) fun g4 w4 p4 hs b4 cb => ?_)
 have hfr := hfr.stp hs
 have hmk := hmk.stp hs
 have rp0 := rp0.stp hs
 have rp1 := rp1.stp hs
 have rp2 := rp2.stp hs
 have q1 := q1.stp hs
 have q2 := q2.stp hs
 have q3 := q3.stp hs
 clear cb
 refine EL_do .plain rfl (D_allocOc (g := g4) 2007 (0 : Int) Try.zeroValue3 (fun m w => ⟨_, rep_int, rfl⟩) fun g5 w5 p5 hs b5 cb => ?_)
 have hfr := hfr.stp hs
 have hmk := hmk.stp hs
 have rp0 := rp0.stp hs
 have rp1 := rp1.stp hs
 have rp2 := rp2.stp hs
 have q1 := q1.stp hs
 have q2 := q2.stp hs
 have q3 := q3.stp hs
 have b4 := b4.stp hs rfl
 clear cb
 refine EL_do .plain rfl (D_allocOc (g := g5) 2008 (0 : Int) Try.zeroValue34 (fun m w => ⟨_, rep_int, rfl⟩) fun g6 w6 p6 hs b6 cb => ?_)
 have hfr := hfr.stp hs
 have hmk := hmk.stp hs
 have rp0 := rp0.stp hs
 have rp1 := rp1.stp hs
 have rp2 := rp2.stp hs
 have q1 := q1.stp hs
 have q2 := q2.stp hs
 have q3 := q3.stp hs
 have b4 := b4.stp hs rfl
 have b5 := b5.stp hs rfl
 clear cb
 refine EL_nil (thn_n (E_joinCD h (fun (s : Int × Int × Int) e ds w => ∃ (g : Gh) , Fr gI wI g w ∧ MkF g w ds ∧ e 3 = p1 ∧ PT g.m w (x0 : FaultLoom) p1 ∧ e 4 = p2 ∧ PT g.m w (x1 : FaultDamage) p2 ∧ e 5 = p3 ∧ PT g.m w (x2 : FaultDamage) p3 ∧ e 6 = p4 ∧ OB 2006 g w 3 (s.1 : Int) p4 ∧ e 7 = p5 ∧ OB 2007 g w 3 (s.2.1 : Int) p5 ∧ e 8 = p6 ∧ OB 2008 g w 34 (s.2.2 : Int) p6) (fun X21 n7 u7 h => ?_) ?_))
 ·refine E_seq (E_region (EL_do .plain rfl (D_load (g := g6) Try.isAgg28 Try.sizeOf28 rfl q1 fun x8 j1 => ?_)))
  refine EL_do .plain rfl (D_load (g := g6) Try.isAgg62 Try.sizeOf62 rfl q2 fun y8 m1 => ?_)
  refine EL_do .plain rfl (D_load (g := g6) Try.isAgg62 Try.sizeOf62 rfl q3 fun z8 z1 => ?_)
  refine EL_do .plain rfl (D_buildSlice (g := g6) 3015 (xs := ([x1, x2] : List FaultDamage)) (vs := [y8, z8]) Try.underlying29 Try.sizeOf62 Try.zeroValue62 rfl rfl (.cons rfl (.cons rfl .nil)) (RVs.cons m1 (RVs.cons z1 RVs.nil)) rfl rfl fun a9 kA b9 hs o25 d2 hxt hfl => ?_)
  have hfr := hfr.stp hs
  have hmk := hmk.stp hs
  have rp0 := rp0.stp hs
  have rp1 := rp1.stp hs
  have rp2 := rp2.stp hs
  have q1 := q1.stp hs
  have q2 := q2.stp hs
  have q3 := q3.stp hs
  have b4 := b4.stp hs rfl
  have b5 := b5.stp hs rfl
  have b6 := b6.stp hs rfl
  have j1 := j1.stp hs
  have m1 := m1.stp hs
  have z1 := z1.stp hs
  obtain ⟨m2, v7, h⟩ := bsome h
  refine EL_do .plain rfl (D_call (g := a9) (vs := [x8, b9]) en18 (.cons rfl (.cons rfl .nil)) (wk18 j1 d2 v7) fun o7 l9 lA hs hr => ?_)
  have hfr := hfr.ext hs
  have hmk := hmk.ext hs
  have rp0 := rp0.ext hs
  have rp1 := rp1.ext hs
  have rp2 := rp2.ext hs
  have q1 := q1.ext hs
  have q2 := q2.ext hs
  have q3 := q3.ext hs
  have b4 := b4.ext hs
  have b5 := b5.ext hs
  have b6 := b6.ext hs
  have j1 := j1.ext hs
  have m1 := m1.ext hs
  have z1 := z1.ext hs
  have d2 := d2.ext hs
  have o25 := o25.ext hs
  subst hr
  refine EL_pur (v := .int .i64 (m2)) (P_assign rfl) .plain rfl ?_
  refine EL_nil (thn_n (E_seq (E_region (EL_pur (v := .int .i64 (m2)) (P_move rfl) .plain rfl ?_))))
  refine EL_pur (v := .bool ((m2 != (0 : Int)))) (P_int rfl rfl rfl) .plain rfl ?_
  refine EL_nil (thn_n ?_)
  rcases csome h with ⟨o5, h⟩ | ⟨o5, h⟩
  ·refine E_cond_true (Eq.trans (show ev _ _ = .bool ((m2 != (0 : Int))) from rfl) (congrArg Value.bool o5)) ?_
   refine E_seq (E_region (EL_pur (v := .int .i64 (m2)) (P_move rfl) .plain rfl ?_))
   refine EL_do .plain rfl (D_storeOc (g := o7) (v := .int .i64 (0)) Try.sizeOf3 rfl b4 rfl (RV_int.2 rfl) fun c9 mA hs b29 cb => ?_)
   clear cb
   have hfr := hfr.stp hs
   have hmk := hmk.stp hs
   have rp0 := rp0.stp hs
   have rp1 := rp1.stp hs
   have rp2 := rp2.stp hs
   have q1 := q1.stp hs
   have q2 := q2.stp hs
   have q3 := q3.stp hs
   have b5 := b5.stp hs rfl
   have b6 := b6.stp hs rfl
   have j1 := j1.stp hs
   have m1 := m1.stp hs
   have z1 := z1.stp hs
   have d2 := d2.stp hs
   have o25 := o25.stp hs rfl
   refine EL_do .plain rfl (D_storeOc (g := c9) (v := .int .i64 (0)) Try.sizeOf3 rfl b5 rfl (RV_int.2 rfl) fun d9 nA hs b30 cb => ?_)
   clear cb
   have hfr := hfr.stp hs
   have hmk := hmk.stp hs
   have rp0 := rp0.stp hs
   have rp1 := rp1.stp hs
   have rp2 := rp2.stp hs
   have q1 := q1.stp hs
   have q2 := q2.stp hs
   have q3 := q3.stp hs
   have b29 := b29.stp hs rfl
   have b6 := b6.stp hs rfl
   have j1 := j1.stp hs
   have m1 := m1.stp hs
   have z1 := z1.stp hs
   have d2 := d2.stp hs
   have o25 := o25.stp hs rfl
   refine EL_do .plain rfl (D_storeOc (g := d9) (v := .int .i64 (m2)) Try.sizeOf34 rfl b6 rfl (RV_int.2 rfl) fun oA pA hs b31 cb => ?_)
   clear cb
   have hfr := hfr.stp hs
   have hmk := hmk.stp hs
   have rp0 := rp0.stp hs
   have rp1 := rp1.stp hs
   have rp2 := rp2.stp hs
   have q1 := q1.stp hs
   have q2 := q2.stp hs
   have q3 := q3.stp hs
   have b29 := b29.stp hs rfl
   have b30 := b30.stp hs rfl
   have j1 := j1.stp hs
   have m1 := m1.stp hs
   have z1 := z1.stp hs
   have d2 := d2.stp hs
   have o25 := o25.stp hs rfl
   refine EL_nil (thn_n (E_ret (thn_r ?_)))
   refine endM (.inr rfl) hmk fun qA rA hs => ?_
   have hfr := hfr.stp hs
   have rp0 := rp0.stp hs
   have rp1 := rp1.stp hs
   have rp2 := rp2.stp hs
   have q1 := q1.stp hs
   have q2 := q2.stp hs
   have q3 := q3.stp hs
   have b29 := b29.stp hs rfl
   have b30 := b30.stp hs rfl
   have b31 := b31.stp hs rfl
   have j1 := j1.stp hs
   have m1 := m1.stp hs
   have z1 := z1.stp hs
   have d2 := d2.stp hs
   have o25 := o25.stp hs rfl
   obtain rfl := Option.some.inj h
   obtain ⟨ad33, cv33, hp33, x7, cr33⟩ := ob_read Try.isAgg3 Try.sizeOf3 b29
   obtain rfl := RV_int.1 cr33
   obtain ⟨ad34, cv34, hp34, y7, cr34⟩ := ob_read Try.isAgg3 Try.sizeOf3 b30
   obtain rfl := RV_int.1 cr34
   obtain ⟨ad35, cv35, hp35, z7, cr35⟩ := ob_read Try.isAgg34 Try.sizeOf34 b31
   obtain rfl := RV_int.1 cr35
   exact endm_ccc rfl rfl ((show _ = p4 from rfl).trans hp33) x7 ((show _ = p5 from rfl).trans hp34) y7 ((show _ = p6 from rfl).trans hp35) z7 ⟨_, hfr, _, _, _, rfl, rfl, rfl, rfl⟩
  ·refine E_cond_false (Eq.trans (show ev _ _ = .bool ((m2 != (0 : Int))) from rfl) (congrArg Value.bool o5)) ?_
   exact E_skip (thn_n (u7 ((0 : Int), (0 : Int), (0 : Int)) _ _ _ ⟨o7, hfr, hmk, rfl, q1, rfl, q2, rfl, q3, rfl, b4, rfl, b5, rfl, b6⟩ h))
 ·rintro ⟨o4, q4, r4⟩ m9 q5 sA ⟨q6, hfr, hmk, r5, c4, b7, s4, c7, u4, x4, c5, d5, e5, i5, j5⟩ h
  refine E_joinCD h (fun (s : Int × Int × Int) e ds w => ∃ (g : Gh) , Fr gI wI g w ∧ MkF g w ds ∧ e 6 = p4 ∧ OB 2006 g w 3 (s.1 : Int) p4 ∧ e 7 = p5 ∧ OB 2007 g w 3 (s.2.1 : Int) p5 ∧ e 8 = p6 ∧ OB 2008 g w 34 (s.2.2 : Int) p6) (fun X85 m7 a8 h => ?_) ?_
  ·refine E_seq (L_load (x := .tmp 3) Try.isAgg28 Try.sizeOf28 c4 fun t5 u5 b8 => ?_)
   have x5 : RV q6.m _ (⟨x0⟩ : FaultFaultLoom) (.agg (setCh [[.int .i64 0, .slice none 0 0, .int .i64 0, .slice none 0 0]] [(0, t5)]).flatten.toArray) := RV_build rfl (rep_last (RV.cells u5))
   generalize c8 : (Value.agg (setCh [[.int .i64 0, .slice none 0 0, .int .i64 0, .slice none 0 0]] [(0, t5)]).flatten.toArray) = p7 at x5
   refine L_load (x := .tmp 4) Try.isAgg62 Try.sizeOf62 s4 fun q7 r6 d8 => ?_
   obtain ⟨i4, e8, h⟩ := bsome h
   refine L_load (x := .tmp 3) Try.isAgg28 Try.sizeOf28 c4 fun y5 a6 g8 => ?_
   have c6 : RV q6.m _ (⟨x0⟩ : FaultFaultLoom) (.agg (setCh [[.int .i64 0, .slice none 0 0, .int .i64 0, .slice none 0 0]] [(0, y5)]).flatten.toArray) := RV_build rfl (rep_last (RV.cells a6))
   generalize i8 : (Value.agg (setCh [[.int .i64 0, .slice none 0 0, .int .i64 0, .slice none 0 0]] [(0, y5)]).flatten.toArray) = r7 at c6
   refine L_load (x := .tmp 5) Try.isAgg62 Try.sizeOf62 u4 fun s7 s6 j8 => ?_
   obtain ⟨j4, k8, h⟩ := bsome h
   obtain ⟨m4, l8, h⟩ := bsome h
   refine E_drawL (g := q6) (n := 11) [(3, (fun v g w => RV g.m w ([x1] : List FaultDamage) v ∧ OS 3023 g w 62 ([x1] : List FaultDamage) v ∧ FullV v)), (4, (fun v g w => RV g.m w i4 v)), (8, (fun v g w => RV g.m w ([x2] : List FaultDamage) v ∧ OS 3028 g w 62 ([x2] : List FaultDamage) v ∧ FullV v)), (9, (fun v g w => RV g.m w j4 v)), (10, (fun v g w => ItV Try.prog (RA2 (α := Int) (β := Int)) m4 v g.m w))] [0, 1, 2, 3, 4, 5, 6, 7, 8, 9, 10] rfl mixed (by kernel_rfl) (⟨fun _ => up_and up_rv (up_and up_os (up_eq _)), fun _ => up_rv, fun _ => up_and up_rv (up_and up_os (up_eq _)), fun _ => up_rv, fun _ => up_itv, trivial⟩) ?_
   refine L_ld (c := t5) rfl rfl .plain (fun _ _ h => h.ch) b8 r5 ?_
   refine L_pur (c := p7) rfl rfl .plain (fun _ _ hd => c8 ▸ P_build (vs := [(0, t5)]) [[.int .i64 0, .slice none 0 0, .int .i64 0, .slice none 0 0]] lay_98 rfl rfl (.cons rfl .nil) ⟨⟨_, rfl, cells_size u5⟩, trivial⟩) ?_
   refine L_ld (c := q7) rfl rfl .plain (fun _ _ h => h.ch) d8 b7 ?_
   refine L_do (φ := fun v g w => RV g.m w ([x1] : List FaultDamage) v ∧ OS 3023 g w 62 ([x1] : List FaultDamage) v ∧ FullV v) rfl rfl .plain (fun g w hd => D_buildSlice (g := g) 3023 (xs := ([x1] : List FaultDamage)) (vs := [q7]) Try.underlying29 Try.sizeOf62 Try.zeroValue62 rfl rfl (.cons rfl .nil) (RVs.cons (r6.ext hd.1) RVs.nil) rfl rfl fun g' w' v hs o r hxt hfl => ⟨g', hxt, r, o, hfl⟩) (fun d3 hv => ?_)
   clear hv
   refine L_do (φ := fun v g w => RV g.m w i4 v) rfl rfl .plain (fun g w hd => D_call (g := g) (vs := [p7, d3]) en55 (.cons rfl (.cons rfl .nil)) (wk55 (x5.ext hd.1) (word (A := fun g w => RV g.m w ([x1] : List FaultDamage) d3 ∧ OS 3023 g w 62 ([x1] : List FaultDamage) d3 ∧ FullV d3) 3 rfl rfl (deps_of hd)).1 e8) fun g' w' v hs hr => ⟨g', hs, hr⟩) (fun t6 hv => ?_)
   obtain ⟨_, _, _, rq90⟩ := hv
   refine L_ld (c := y5) rfl rfl .plain (fun _ _ h => h.ch) g8 r5 ?_
   refine L_pur (c := r7) rfl rfl .plain (fun _ _ hd => i8 ▸ P_build (vs := [(0, y5)]) [[.int .i64 0, .slice none 0 0, .int .i64 0, .slice none 0 0]] lay_98 rfl rfl (.cons rfl .nil) ⟨⟨_, rfl, cells_size a6⟩, trivial⟩) ?_
   refine L_ld (c := s7) rfl rfl .plain (fun _ _ h => h.ch) j8 c7 ?_
   refine L_do (φ := fun v g w => RV g.m w ([x2] : List FaultDamage) v ∧ OS 3028 g w 62 ([x2] : List FaultDamage) v ∧ FullV v) rfl rfl .plain (fun g w hd => D_buildSlice (g := g) 3028 (xs := ([x2] : List FaultDamage)) (vs := [s7]) Try.underlying29 Try.sizeOf62 Try.zeroValue62 rfl rfl (.cons rfl .nil) (RVs.cons (s6.ext hd.1) RVs.nil) rfl rfl fun g' w' v hs o r hxt hfl => ⟨g', hxt, r, o, hfl⟩) (fun e3 hv => ?_)
   clear hv
   refine L_do (φ := fun v g w => RV g.m w j4 v) rfl rfl .plain (fun g w hd => D_call (g := g) (vs := [r7, e3]) en55 (.cons rfl (.cons rfl .nil)) (wk55 (c6.ext hd.1) (word (A := fun g w => RV g.m w ([x2] : List FaultDamage) e3 ∧ OS 3028 g w 62 ([x2] : List FaultDamage) e3 ∧ FullV e3) 8 rfl rfl (deps_of hd)).1 k8) fun g' w' v hs hr => ⟨g', hs, hr⟩) (fun u6 hv => ?_)
   obtain ⟨_, _, _, rq96⟩ := hv
   refine L_do (φ := fun v g w => ItV Try.prog (RA2 (α := Int) (β := Int)) m4 v g.m w) rfl rfl .plain (fun g w hd => D_call (g := g) (vs := [t6, u6]) en56 (.cons rfl (.cons rfl .nil)) (wk56 (word (A := fun g w => RV g.m w i4 t6) 4 rfl rfl (deps_of hd)) (word (A := fun g w => RV g.m w j4 u6) 9 rfl rfl (deps_of hd)) l8) fun g' w' v hs hr => ⟨g', hs, hr⟩) (fun t7 hv => ?_)
   clear hv
   refine L_nil fun n9 o9 hall => ?_
   have hs := hall.1
   have hfr := hfr.ext hs
   have hmk := hmk.ext hs
   have c4 := c4.ext hs
   have s4 := s4.ext hs
   have u4 := u4.ext hs
   have c5 := c5.ext hs
   have e5 := e5.ext hs
   have j5 := j5.ext hs
   have u5 := u5.ext hs
   have x5 := x5.ext hs
   have r6 := r6.ext hs
   have a6 := a6.ext hs
   have c6 := c6.ext hs
   have s6 := s6.ext hs
   have p9 := (word_all (A := fun g w => RV g.m w ([x1] : List FaultDamage) d3 ∧ OS 3023 g w 62 ([x1] : List FaultDamage) d3 ∧ FullV d3) 3 rfl hall).1
   have o110 := (word_all (A := fun g w => RV g.m w ([x1] : List FaultDamage) d3 ∧ OS 3023 g w 62 ([x1] : List FaultDamage) d3 ∧ FullV d3) 3 rfl hall).2.1
   have q9 := (word_all (A := fun g w => RV g.m w i4 t6) 4 rfl hall)
   have r9 := (word_all (A := fun g w => RV g.m w ([x2] : List FaultDamage) e3 ∧ OS 3028 g w 62 ([x2] : List FaultDamage) e3 ∧ FullV e3) 8 rfl hall).1
   have o115 := (word_all (A := fun g w => RV g.m w ([x2] : List FaultDamage) e3 ∧ OS 3028 g w 62 ([x2] : List FaultDamage) e3 ∧ FullV e3) 8 rfl hall).2.1
   have s9 := (word_all (A := fun g w => RV g.m w j4 u6) 9 rfl hall)
   have v6 := (word_all (A := fun g w => ItV Try.prog (RA2 (α := Int) (β := Int)) m4 t7 g.m w) 10 rfl hall)
   clear hs hall
   refine EL_nil (thn_n (E_block ?_))
   have hB0 := hfr.size
   have hmk0 := hmk
   obtain ⟨⟨i3, ⟨j3, m3, o3⟩⟩, hφ, h⟩ := bsome h
   refine E_rangeFunc (σ := (Nat × Int × Int × Int)) (s0 := (0, (o4, q4, r4))) 10 rfl (fun s => s.1) [.ret] (fun (s : Nat × Int × Int × Int) (g : Gh) (w : World) => Fr gI wI g w ∧ MkF g w q5 ∧ OB 2006 g w 3 (s.2.1 : Int) p4 ∧ OB 2007 g w 3 (s.2.2.1 : Int) p5 ∧ OB 2008 g w 34 (s.2.2.2 : Int) p6 ∧ ItV Try.prog (RA2 (α := Int) (β := Int)) m4 t7 g.m w) rfl v6 hφ (fun _ _ _ h => (guardC_h h).1) rfl ra2_size rfl (fun _ _ _ _ _ hx hR => by obtain ⟨hfr, hmk, z2, z3, z4, z5⟩ := hR; exact ⟨hfr.ist hx hB0, hmk.ist hx, z2.ist hx, z3.ist hx, z4.ist hx, z5.ist hx⟩) (fun _ _ _ _ _ hx hR => by obtain ⟨hfr, hmk, z2, z3, z4, z5⟩ := hR; exact ⟨hfr.stp hx, hmk.stp hx, z2.stp hx rfl, z3.stp hx rfl, z4.stp hx rfl, z5.stp hx⟩) ⟨hfr, hmk, c5, e5, j5, v6⟩ (fun _ h => by cases h) ?_ ?_
   ·intro j9 e9 s x b s2 x6 m8 vs hsz h hR hrec_0 d6 hrd
    obtain ⟨hs0, h⟩ := guardC_h h
    obtain ⟨st, ⟨m6, n6, o6⟩⟩ := s
    obtain ⟨hfr, hmk, d4, i2, o0, j0⟩ := hR
    obtain ⟨u0, i1⟩ := x
    obtain ⟨y6, z6, rfl, e6, i6⟩ := ra2_get hrd
    obtain rfl : y6 = .int .i64 (u0) := RV_int.1 e6
    obtain rfl : z6 = .int .i64 (i1) := RV_int.1 i6
    have n0 := RFr.refl x6 m8
    refine E_seq (E_region (EL_pur (v := .int .i64 (u0)) (P_assign rfl) .plain rfl ?_))
    refine EL_nil (thn_n (E_region (EL_pur (v := .int .i64 (i1)) (P_assign rfl) .plain rfl ?_)))
    refine EL_nil (thn_n ?_)
    obtain ⟨n8, hbr, hs, hrN⟩ := begin_round hrec_0 d6
    refine ⟨n8, hbr, ?_⟩
    have hfr := hfr.stp hs
    have hmk := hmk.stp hs
    have n0 := n0.stp hs
    have d4 := d4.stp hs rfl
    have i2 := i2.stp hs rfl
    have o0 := o0.stp hs rfl
    have j0 := j0.stp hs
    have hrec_0 := hrN
    clear hbr hs hrN
    refine E_block ?_
    refine E_seq (E_region (EL_pur (v := .int .i64 (u0)) (P_move rfl) .plain rfl ?_))
    refine EL_pur (v := .int .i64 (i1)) (P_move rfl) .plain rfl ?_
    refine EL_do .plain rfl (D_storeOc (g := x6) (v := .int .i64 (u0)) Try.sizeOf3 x4 d4 rfl (RV_int.2 rfl) fun o8 t9 hs b125 cb => ?_)
    clear cb
    have hfr := hfr.stp hs
    have hmk := hmk.stp hs
    have n0 := n0.stp hs
    have hrec_0 := hrec_0.stp hs rfl
    have i2 := i2.stp hs rfl
    have o0 := o0.stp hs rfl
    have j0 := j0.stp hs
    refine EL_do .plain rfl (D_storeOc (g := o8) (v := .int .i64 (i1)) Try.sizeOf3 d5 i2 rfl (RV_int.2 rfl) fun p8 u9 hs b126 cb => ?_)
    clear cb
    have hfr := hfr.stp hs
    have hmk := hmk.stp hs
    have n0 := n0.stp hs
    have hrec_0 := hrec_0.stp hs rfl
    have b125 := b125.stp hs rfl
    have o0 := o0.stp hs rfl
    have j0 := j0.stp hs
    refine EL_do .plain rfl (D_storeOc (g := p8) (v := .int .i64 (0)) Try.sizeOf34 i5 o0 rfl (RV_int.2 rfl) fun v9 x9 hs b127 cb => ?_)
    clear cb
    have hfr := hfr.stp hs
    have hmk := hmk.stp hs
    have n0 := n0.stp hs
    have hrec_0 := hrec_0.stp hs rfl
    have b125 := b125.stp hs rfl
    have b126 := b126.stp hs rfl
    have j0 := j0.stp hs
    refine EL_nil (thn_n (E_ret (blk_r ?_)))
    obtain ⟨rfl, rfl⟩ := pairs2 h
    exact ⟨_, n0, ⟨hfr, hmk, b125, b126, b127, j0⟩, hrec_0, rfl, 0, rfl, rfl⟩
   ·intro q8 y9 ds129 hsz hR hds
    obtain ⟨hfr, hmk, r3, s3, u3, n4⟩ := hR
    obtain ⟨D, hdse, hD, hDb⟩ := hds.1 rfl
    subst hdse
    replace hmk := MkF.push hmk0 hmk hD hDb
    clear hD hDb hds
    revert hmk
    generalize ({ target := .collected D, args := #[] } :: q5 : List Deferred) = g9
    intro hmk
    refine ⟨fun hs => ?_, fun k c hs hc => ?_⟩
    ·have hs : i3 = 0 := hs
     subst hs
     replace h := cond_t h rfl
     exact blk_n (thn_n (a8 (j3, m3, o3) _ _ _ ⟨q8, hfr, hmk, x4, r3, d5, s3, i5, u3⟩ h))
    ·have hs : i3 = k + 1 := hs
     match k, hs, hc with
     | 0, hs, hc =>
      subst hs
      obtain rfl := Option.some.inj hc
      replace h := cond_f h rfl
      refine E_ret (blk_r ?_)
      refine thn_r ?_
      refine endM (.inr rfl) hmk fun z9 aA hs => ?_
      have hfr := hfr.stp hs
      have r3 := r3.stp hs rfl
      have s3 := s3.stp hs rfl
      have u3 := u3.stp hs rfl
      have n4 := n4.stp hs
      obtain rfl := Option.some.inj h
      obtain ⟨ad131, cv131, hp131, d7, cr131⟩ := ob_read Try.isAgg3 Try.sizeOf3 r3
      obtain rfl := RV_int.1 cr131
      obtain ⟨ad132, cv132, hp132, e7, cr132⟩ := ob_read Try.isAgg3 Try.sizeOf3 s3
      obtain rfl := RV_int.1 cr132
      obtain ⟨ad133, cv133, hp133, g7, cr133⟩ := ob_read Try.isAgg34 Try.sizeOf34 u3
      obtain rfl := RV_int.1 cr133
      exact endm_ccc rfl rfl ((show _ = p4 from x4).trans hp131) d7 ((show _ = p5 from d5).trans hp132) e7 ((show _ = p6 from i5).trans hp133) g7 ⟨_, hfr, _, _, _, rfl, rfl, rfl, rfl⟩
     | n + 1, _, hc => exact absurd hc (by simp)
  ·rintro ⟨j6, k6, l6⟩ k9 i9 bA ⟨r8, hfr, hmk, l5, a7, m5, e4, n5, j2⟩ h
   refine E_seq (E_region (EL_do .plain rfl (D_storeOc (g := r8) (v := .int .i64 (0)) Try.sizeOf3 l5 a7 rfl (RV_int.2 rfl) fun t8 cA hs b135 cb => ?_)))
   clear cb
   have hfr := hfr.stp hs
   have hmk := hmk.stp hs
   have e4 := e4.stp hs rfl
   have j2 := j2.stp hs rfl
   refine EL_do .plain rfl (D_storeOc (g := t8) (v := .int .i64 (0)) Try.sizeOf3 m5 e4 rfl (RV_int.2 rfl) fun v8 dA hs b136 cb => ?_)
   clear cb
   have hfr := hfr.stp hs
   have hmk := hmk.stp hs
   have b135 := b135.stp hs rfl
   have j2 := j2.stp hs rfl
   refine EL_do .plain rfl (D_storeOc (g := v8) (v := .int .i64 (7)) Try.sizeOf34 n5 j2 rfl (RV_int.2 rfl) fun eA gA hs b137 cb => ?_)
   clear cb
   have hfr := hfr.stp hs
   have hmk := hmk.stp hs
   have b135 := b135.stp hs rfl
   have b136 := b136.stp hs rfl
   refine EL_nil (thn_n (E_ret (endM (.inr rfl) hmk fun iA jA hs => ?_)))
   have hfr := hfr.stp hs
   have b135 := b135.stp hs rfl
   have b136 := b136.stp hs rfl
   have b137 := b137.stp hs rfl
   obtain rfl := Option.some.inj h
   obtain ⟨ad139, cv139, hp139, i7, cr139⟩ := ob_read Try.isAgg3 Try.sizeOf3 b135
   obtain rfl := RV_int.1 cr139
   obtain ⟨ad140, cv140, hp140, j7, cr140⟩ := ob_read Try.isAgg3 Try.sizeOf3 b136
   obtain rfl := RV_int.1 cr140
   obtain ⟨ad141, cv141, hp141, l7, cr141⟩ := ob_read Try.isAgg34 Try.sizeOf34 b137
   obtain rfl := RV_int.1 cr141
   exact endm_ccc rfl rfl ((show _ = p4 from l5).trans hp139) i7 ((show _ = p5 from m5).trans hp140) j7 ((show _ = p6 from n5).trans hp141) l7 ⟨_, hfr, _, _, _, rfl, rfl, rfl, rfl⟩
/-- griffe/fault.Apart -/
def f38 (x0 : FaultLoom) (x1 : List FaultDamage) : Option (Int × Int) :=
 jn (σ := Int) (fun r6 =>
  (f68 ((⟨x0⟩ : FaultFaultLoom)) x1).bind fun u0 =>
  Option.bind (α := Int) (
   lp (σ := Int × Int) (fun r7 (s4, j0) =>
    bif (decide (j0 < ((u0).length : Int))) then
     Option.bind (α := Int) (
      (idx u0 j0).bind fun u4 =>
      (cut u0 0 j0).bind fun j1 =>
      lp (σ := Int × Int) (fun s7 (o3, n0) =>
       bif (decide (n0 < ((j1).length : Int))) then
        Option.bind (α := Int) (
         (idx j1 n0).bind fun t7 =>
         (f56 u4 t7).bind fun j6 =>
         (j6 (Nat × Int) (guardC fun p3 (i1, u5) =>
          some (false, ((1 : Nat), ((max64 p3 (w64 (i1 + (1 : Int)))))))
          ) (0, (o3))).bind fun (q3, x4) =>
         bif Nat.beq q3 0 then
          some (x4)
         else
          some (x4)
         ) fun r3 =>
        s7 (r3, (w64 (n0 + (1 : Int))))
       else
        some (o3)
       ) big (s4, (0 : Int))
      ) fun s3 =>
     r7 (s3, (w64 (j0 + (1 : Int))))
    else
     some (s4)
    ) big (r6, (0 : Int))
   ) fun u3 =>
  some (u3, (0 : Int))
  ) fun b9 =>
 (f18 x0 x1).bind fun j2 =>
 bif (j2 != (0 : Int)) then
  some ((0 : Int), j2)
 else
  b9 ((0 : Int))
theorem en38 : Enters Try.prog 38 := enters_of Try.func38 (by kernel_rfl) rfl
theorem wk38 {gI : Gh} {wI : World} {x0 : FaultLoom} {x1 : List FaultDamage} {up0 : Value} (rp0 : RV gI.m wI x0 up0) {up1 : Value} (rp1 : RV gI.m wI x1 up1) {r : Int × Int} (h : f38 x0 x1 = some r) : Fn Try.prog 38 #[up0, up1] gI wI (fun m w v => ∃ y0 y1, v = .tuple #[y0, y1] ∧ y0 = .int .i64 (r.1) ∧ y1 = .int .i64 (r.2)) := by
 unfold f38 at h
 refine fnD_of_E Try.func38 rfl (Nat.le_of_ble_eq_true rfl) fun g0 hm hfr => ?_
 have hmk : MkF g0 wI [] := MkF.start
 have rp0 : RV g0.m wI x0 up0 := hm ▸ rp0
 have rp1 : RV g0.m wI x1 up1 := hm ▸ rp1
 show E _ 50 none _ _ _ _ _
 refine E_seq (E_region (EL_do .plain rfl (D_box (g := g0) rfl rp0 fun g1 w1 p1 hs q1 => ?_)))
 have hfr := hfr.ext hs
 have hmk := hmk.ext hs
 have rp0 := rp0.ext hs
 have rp1 := rp1.ext hs
 refine EL_do .plain rfl (D_allocOc (g := g1) 2004 (0 : Int) Try.zeroValue3 (fun m w => ⟨_, rep_int, rfl⟩) fun g2 w2 p2 hs b2 cb => ?_)
 have hfr := hfr.stp hs
 have hmk := hmk.stp hs
 have rp0 := rp0.stp hs
 have rp1 := rp1.stp hs
 have q1 := q1.stp hs
 clear cb
 refine EL_pur (v := .int .i64 (0)) (P_assign rfl) .plain rfl ?_
 refine EL_nil (thn_n (E_joinCD h (fun (s : Int) e ds w => ∃ (g : Gh) , Fr gI wI g w ∧ MkF g w ds ∧ e 1 = up1 ∧ RV g.m w (x1 : List FaultDamage) up1 ∧ e 2 = p1 ∧ PT g.m w (x0 : FaultLoom) p1 ∧ e 4 = p2 ∧ OB 2004 g w 3 (s : Int) p2) (fun X10 b9 e9 h => ?_) ?_))
 ·refine E_seq (E_region (EL_do .plain rfl (D_load (g := g2) Try.isAgg28 Try.sizeOf28 rfl q1 fun x9 b5 => ?_)))
  refine EL_pur (v := up1) (P_move rfl) .plain rfl ?_
  obtain ⟨j2, g9, h⟩ := bsome h
  refine EL_do .plain rfl (D_call (g := g2) (vs := [x9, up1]) en18 (.cons rfl (.cons rfl .nil)) (wk18 b5 rp1 g9) fun c9 pA jB hs hr => ?_)
  have hfr := hfr.ext hs
  have hmk := hmk.ext hs
  have rp0 := rp0.ext hs
  have rp1 := rp1.ext hs
  have q1 := q1.ext hs
  have b2 := b2.ext hs
  have b5 := b5.ext hs
  subst hr
  refine EL_pur (v := .int .i64 (j2)) (P_assign rfl) .plain rfl ?_
  refine EL_nil (thn_n (E_seq (E_region (EL_pur (v := .int .i64 (j2)) (P_move rfl) .plain rfl ?_))))
  refine EL_pur (v := .bool ((j2 != (0 : Int)))) (P_int rfl rfl rfl) .plain rfl ?_
  refine EL_nil (thn_n ?_)
  rcases csome h with ⟨k6, h⟩ | ⟨k6, h⟩
  ·refine E_cond_true (Eq.trans (show ev _ _ = .bool ((j2 != (0 : Int))) from rfl) (congrArg Value.bool k6)) ?_
   refine E_seq (E_region (EL_pur (v := .int .i64 (j2)) (P_move rfl) .plain rfl ?_))
   refine EL_do .plain rfl (D_storeOc (g := c9) (v := .int .i64 (0)) Try.sizeOf3 rfl b2 rfl (RV_int.2 rfl) fun kB lB hs b15 cb => ?_)
   clear cb
   have hfr := hfr.stp hs
   have hmk := hmk.stp hs
   have rp0 := rp0.stp hs
   have rp1 := rp1.stp hs
   have q1 := q1.stp hs
   have b5 := b5.stp hs
   refine EL_pur (v := .int .i64 (j2)) (P_assign rfl) .plain rfl ?_
   refine EL_nil (thn_n (E_ret (thn_r ?_)))
   refine endM (.inr rfl) hmk fun mB nB hs => ?_
   have hfr := hfr.stp hs
   have rp0 := rp0.stp hs
   have rp1 := rp1.stp hs
   have q1 := q1.stp hs
   have b15 := b15.stp hs rfl
   have b5 := b5.stp hs
   obtain rfl := Option.some.inj h
   obtain ⟨ad17, cv17, hp17, i9, cr17⟩ := ob_read Try.isAgg3 Try.sizeOf3 b15
   obtain rfl := RV_int.1 cr17
   exact endm_ct rfl rfl ((show _ = p2 from rfl).trans hp17) i9 (show _ = .int .i64 (j2) from rfl) ⟨_, hfr, _, _, rfl, rfl, rfl⟩
  ·refine E_cond_false (Eq.trans (show ev _ _ = .bool ((j2 != (0 : Int))) from rfl) (congrArg Value.bool k6)) ?_
   exact E_skip (thn_n (e9 ((0 : Int)) _ _ _ ⟨c9, hfr, hmk, rfl, rp1, rfl, q1, rfl, b2⟩ h))
 ·rintro r6 qA gA oB ⟨u7, hfr, hmk, r8, o5, t8, p5, v8, q5⟩ h
  refine E_seq (E_region (EL_do .plain rfl (D_load (g := u7) Try.isAgg28 Try.sizeOf28 t8 p5 fun v7 s6 => ?_)))
  have t6 : RV u7.m _ (⟨x0⟩ : FaultFaultLoom) (.agg (setCh [[.int .i64 0, .slice none 0 0, .int .i64 0, .slice none 0 0]] [(0, v7)]).flatten.toArray) := RV_build rfl (rep_last (RV.cells s6))
  generalize j9 : (Value.agg (setCh [[.int .i64 0, .slice none 0 0, .int .i64 0, .slice none 0 0]] [(0, v7)]).flatten.toArray) = d9 at t6
  refine EL_pur (v := d9) (j9 ▸ P_build (vs := [(0, v7)]) [[.int .i64 0, .slice none 0 0, .int .i64 0, .slice none 0 0]] lay_98 rfl rfl (.cons rfl .nil) ⟨⟨_, rfl, cells_size s6⟩, trivial⟩) .plain rfl ?_
  refine EL_pur (v := up1) (P_move r8) .plain rfl ?_
  obtain ⟨u0, k9, h⟩ := bsome h
  refine EL_do .plain rfl (D_call (g := u7) (vs := [d9, up1]) en68 (.cons rfl (.cons rfl .nil)) (wk68 t6 o5 k9) fun y9 rA o0 hs hr => ?_)
  have hfr := hfr.ext hs
  have hmk := hmk.ext hs
  have o5 := o5.ext hs
  have p5 := p5.ext hs
  have q5 := q5.ext hs
  have s6 := s6.ext hs
  have t6 := t6.ext hs
  have x7 := hr
  refine EL_pur (v := o0) (P_assign rfl) .plain rfl ?_
  refine EL_nil (thn_n ?_)
  obtain ⟨u3, hx, h⟩ := bsome h
  refine E_joinD (fun e ds w => ∃ (g : Gh) , Fr gI wI g w ∧ MkF g w ds ∧ e 4 = p2 ∧ OB 2004 g w 3 (u3 : Int) p2) (fun Q' hQ => ?_) (fun iA z9 l9 hR => ?_)
  ·replace h := hx
   clear hx
   refine E_seq (E_region (EL_pur (v := o0) (P_move rfl) .plain rfl ?_))
   refine EL_pur (v := .int .i64 ((u0).length : Int)) (P_len Try.underlying78 rfl x7) .plain rfl ?_
   refine EL_pur (v := .int .i64 (0)) (P_move rfl) .plain rfl ?_
   refine EL_nil (thn_n (E_block ?_))
   refine E_lpD h (fun (s : Int × Int) e ds w => ∃ (g : Gh) , Fr gI wI g w ∧ MkF g w ds ∧ e 4 = p2 ∧ OB 2004 g w 3 (s.1 : Int) p2 ∧ e 7 = o0 ∧ RV g.m w (u0 : List (List Str)) o0 ∧ e 23 = o0 ∧ RV g.m w (u0 : List (List Str)) o0 ∧ e 24 = .int .i64 (((u0).length : Int)) ∧ e 25 = .int .i64 (s.2)) ⟨y9, hfr, hmk, v8, q5, rfl, x7, rfl, x7, rfl, rfl⟩ (fun X105 r7 x8 => ?_)
   rintro ⟨s4, j0⟩ jA aA sA ⟨l6, hfr, hmk, x5, y5, a6, c5, j5, m4, l5, i3⟩ h
   refine E_seq (E_region (EL_pur (v := .bool ((decide (j0 < ((u0).length : Int))))) (P_int i3 l5 rfl) .plain rfl ?_))
   refine EL_nil (thn_n (E_seq ?_))
   rcases csome h with ⟨r5, h⟩ | ⟨r5, h⟩
   ·refine E_cond_true (Eq.trans (show ev _ _ = .bool ((decide (j0 < ((u0).length : Int)))) from rfl) (congrArg Value.bool r5)) ?_
    refine E_skip (thn_n ?_)
    obtain ⟨s3, hx, h⟩ := bsome h
    refine E_joinD (fun e ds w => ∃ (g : Gh) , Fr gI wI g w ∧ MkF g w ds ∧ e 4 = p2 ∧ OB 2004 g w 3 (s3 : Int) p2 ∧ e 7 = o0 ∧ RV g.m w (u0 : List (List Str)) o0 ∧ e 23 = o0 ∧ RV g.m w (u0 : List (List Str)) o0 ∧ e 24 = .int .i64 (((u0).length : Int)) ∧ e 25 = .int .i64 (j0)) (fun Q' hQ => ?_) (fun kA bA tA hR => ?_)
    ·replace h := hx
     clear hx
     refine E_block ?_
     refine E_seq (E_region (EL_pur (v := .int .i64 (j0)) (P_move i3) .plain rfl ?_))
     obtain ⟨u4, u6, h⟩ := bsome h
     refine EL_pur (v := ePtr o0 j0 1) (P_indexAddr (α := List Str) Try.underlying78 Try.sizeOf36 j5 m4 i3 u6) .plain rfl ?_
     have m9 := PT_idx m4 u6
     refine EL_do .plain rfl (D_load (g := l6) Try.isAgg36 Try.sizeOf36 rfl m9 fun m2 n9 => ?_)
     refine EL_pur (v := .int .i64 (j0)) (P_assign rfl) .plain rfl ?_
     refine EL_pur (v := m2) (P_assign rfl) .plain rfl ?_
     refine EL_nil (thn_n (E_seq (E_region (EL_pur (v := o0) (P_move a6) .plain rfl ?_))))
     refine EL_pur (v := .int .i64 (j0)) (P_move rfl) .plain rfl ?_
     obtain ⟨j1, v6, h⟩ := bsome h
     have y7 := RV_cut c5 v6
     refine EL_pur (v := (cutV o0 (Int.toNat 0) (Int.toNat j0) 1)) (P_slice Try.underlying78 Try.sizeOf36 rfl c5 rfl rfl v6) .plain rfl ?_
     refine EL_pur (v := .int .i64 ((j1).length : Int)) (P_len Try.underlying78 rfl y7) .plain rfl ?_
     refine EL_pur (v := .int .i64 (0)) (P_move rfl) .plain rfl ?_
     refine EL_nil (thn_n (E_block ?_))
     refine E_lpD h (fun (s : Int × Int) e ds w => ∃ (g : Gh) , Fr gI wI g w ∧ MkF g w ds ∧ e 4 = p2 ∧ OB 2004 g w 3 (s.1 : Int) p2 ∧ e 7 = o0 ∧ RV g.m w (u0 : List (List Str)) o0 ∧ e 9 = m2 ∧ RV g.m w (u4 : List Str) m2 ∧ e 23 = o0 ∧ RV g.m w (u0 : List (List Str)) o0 ∧ e 24 = .int .i64 (((u0).length : Int)) ∧ e 25 = .int .i64 (j0) ∧ e 32 = (cutV o0 (Int.toNat 0) (Int.toNat j0) 1) ∧ RV g.m w (j1 : List (List Str)) (cutV o0 (Int.toNat 0) (Int.toNat j0) 1) ∧ e 33 = .int .i64 (((j1).length : Int)) ∧ e 34 = .int .i64 (s.2)) ⟨l6, hfr, hmk, x5, y5, a6, c5, rfl, n9, j5, m4, l5, i3, rfl, y7, rfl, rfl⟩ (fun X152 s7 y8 => ?_)
     rintro ⟨o3, n0⟩ lA b6 uA ⟨m6, hfr, hmk, q2, c4, d5, d4, e5, e4, n4, j3, o4, p4, q4, m1, r4, m3⟩ h
     refine E_seq (E_region (EL_pur (v := .bool ((decide (n0 < ((j1).length : Int))))) (P_int m3 r4 rfl) .plain rfl ?_))
     refine EL_nil (thn_n (E_seq ?_))
     rcases csome h with ⟨t5, h⟩ | ⟨t5, h⟩
     ·refine E_cond_true (Eq.trans (show ev _ _ = .bool ((decide (n0 < ((j1).length : Int)))) from rfl) (congrArg Value.bool t5)) ?_
      refine E_skip (thn_n ?_)
      obtain ⟨r3, hx, h⟩ := bsome h
      refine E_joinD (fun e ds w => ∃ (g : Gh) , Fr gI wI g w ∧ MkF g w ds ∧ e 4 = p2 ∧ OB 2004 g w 3 (r3 : Int) p2 ∧ e 7 = o0 ∧ RV g.m w (u0 : List (List Str)) o0 ∧ e 9 = m2 ∧ RV g.m w (u4 : List Str) m2 ∧ e 23 = o0 ∧ RV g.m w (u0 : List (List Str)) o0 ∧ e 24 = .int .i64 (((u0).length : Int)) ∧ e 25 = .int .i64 (j0) ∧ e 32 = (cutV o0 (Int.toNat 0) (Int.toNat j0) 1) ∧ RV g.m w (j1 : List (List Str)) (cutV o0 (Int.toNat 0) (Int.toNat j0) 1) ∧ e 33 = .int .i64 (((j1).length : Int)) ∧ e 34 = .int .i64 (n0)) (fun Q' hQ => ?_) (fun mA cA vA hR => ?_)
      ·replace h := hx
       clear hx
       refine E_block ?_
       refine E_seq (E_region ?_)
       obtain ⟨t7, x6, h⟩ := bsome h
       refine EL_pur (v := ePtr ((cutV o0 (Int.toNat 0) (Int.toNat j0) 1)) n0 1) (P_indexAddr (α := List Str) Try.underlying78 Try.sizeOf36 q4 m1 m3 x6) .plain rfl ?_
       have n6 := PT_idx m1 x6
       refine EL_do .plain rfl (D_load (g := m6) Try.isAgg36 Try.sizeOf36 rfl n6 fun o6 p6 => ?_)
       refine EL_pur (v := o6) (P_assign rfl) .plain rfl ?_
       refine EL_nil (thn_n (E_seq (E_region (EL_pur (v := m2) (P_move e5) .plain rfl ?_))))
       refine EL_pur (v := o6) (P_move rfl) .plain rfl ?_
       obtain ⟨j6, z8, h⟩ := bsome h
       refine EL_do .plain rfl (D_call (g := m6) (vs := [m2, o6]) en56 (.cons rfl (.cons rfl .nil)) (wk56 e4 p6 z8) fun xA nA o9 hs hr => ?_)
       have hfr := hfr.ext hs
       have hmk := hmk.ext hs
       have c4 := c4.ext hs
       have d4 := d4.ext hs
       have e4 := e4.ext hs
       have j3 := j3.ext hs
       have m1 := m1.ext hs
       have n6 := n6.ext hs
       have p6 := p6.ext hs
       have a8 := hr
       refine EL_nil (thn_n (E_block ?_))
       have hB0 := hfr.size
       have hmk0 := hmk
       obtain ⟨⟨q3, x4⟩, hφ, h⟩ := bsome h
       refine E_rangeFunc (σ := (Nat × Int)) (s0 := (0, (o3))) 10 rfl (fun s => s.1) [.exit 4] (fun (s : Nat × Int) (g : Gh) (w : World) => Fr gI wI g w ∧ MkF g w b6 ∧ OB 2004 g w 3 (s.2 : Int) p2 ∧ RV g.m w (u0 : List (List Str)) o0 ∧ RV g.m w (u4 : List Str) m2 ∧ RV g.m w (u0 : List (List Str)) o0 ∧ RV g.m w (j1 : List (List Str)) (cutV o0 (Int.toNat 0) (Int.toNat j0) 1) ∧ ItV Try.prog (RA2 (α := Int) (β := Int)) j6 o9 g.m w) rfl a8 hφ (fun _ _ _ h => (guardC_h h).1) rfl ra2_size rfl (fun _ _ _ _ _ hx hR => by obtain ⟨hfr, hmk, z2, z3, z4, z5, z6, z7⟩ := hR; exact ⟨hfr.ist hx hB0, hmk.ist hx, z2.ist hx, z3.ist hx, z4.ist hx, z5.ist hx, z6.ist hx, z7.ist hx⟩) (fun _ _ _ _ _ hx hR => by obtain ⟨hfr, hmk, z2, z3, z4, z5, z6, z7⟩ := hR; exact ⟨hfr.stp hx, hmk.stp hx, z2.stp hx rfl, z3.stp hx, z4.stp hx, z5.stp hx, z6.stp hx, z7.stp hx⟩) ⟨hfr, hmk, c4, d4, e4, j3, m1, a8⟩ (fun _ h => by cases h) ?_ ?_
       ·intro oA dA s x b s2 q6 p9 vs hsz h hR hrec_0 y6 hrd
        obtain ⟨hs0, h⟩ := guardC_h h
        obtain ⟨st, p3⟩ := s
        obtain ⟨hfr, hmk, i4, d3, e3, z1, d2, i2⟩ := hR
        obtain ⟨i1, u5⟩ := x
        obtain ⟨b8, c8, rfl, a7, b7⟩ := ra2_get hrd
        obtain rfl : b8 = .int .i64 (i1) := RV_int.1 a7
        obtain rfl : c8 = .int .i64 (u5) := RV_int.1 b7
        have j4 := RFr.refl q6 p9
        refine E_region (EL_pur (v := .int .i64 (i1)) (P_assign rfl) .plain rfl ?_)
        refine EL_nil (thn_n ?_)
        obtain ⟨q9, hbr, hs, hrN⟩ := begin_round hrec_0 y6
        refine ⟨q9, hbr, ?_⟩
        have hfr := hfr.stp hs
        have hmk := hmk.stp hs
        have j4 := j4.stp hs
        have i4 := i4.stp hs rfl
        have d3 := d3.stp hs
        have e3 := e3.stp hs
        have z1 := z1.stp hs
        have d2 := d2.stp hs
        have i2 := i2.stp hs
        have hrec_0 := hrN
        clear hbr hs hrN
        refine E_block ?_
        refine E_seq (E_region (EL_do .plain rfl (D_loadO (g := q6) Try.isAgg3 Try.sizeOf3 q2 i4 fun yA r9 => ?_)))
        obtain rfl := RV_int.1 r9
        refine EL_pur (v := .int .i64 (i1)) (P_move rfl) .plain rfl ?_
        refine EL_pur (v := .int .i64 ((w64 (i1 + (1 : Int))))) (P_int rfl rfl rfl) .plain rfl ?_
        refine EL_pur (v := .int .i64 (max64 p3 (w64 (i1 + (1 : Int))))) (P_max rfl rfl) .plain rfl ?_
        refine EL_do .plain rfl (D_storeOc (g := q6) (v := .int .i64 (max64 p3 (w64 (i1 + (1 : Int))))) Try.sizeOf3 q2 i4 rfl (RV_int.2 rfl) fun zA aB hs b182 cb => ?_)
        clear cb
        have hfr := hfr.stp hs
        have hmk := hmk.stp hs
        have j4 := j4.stp hs
        have hrec_0 := hrec_0.stp hs rfl
        have d3 := d3.stp hs
        have e3 := e3.stp hs
        have z1 := z1.stp hs
        have d2 := d2.stp hs
        have i2 := i2.stp hs
        refine EL_nil (thn_n (E_exit ?_))
        refine blk_miss rfl ?_
        obtain ⟨rfl, rfl⟩ := pairs2 h
        exact ⟨_, j4, ⟨hfr, hmk, b182, d3, e3, z1, d2, i2⟩, hrec_0, rfl, 0, rfl, rfl⟩
       ·intro d8 bB ds184 hsz hR hds
        obtain ⟨hfr, hmk, c6, d6, e6, m5, n5, v9⟩ := hR
        obtain ⟨D, hdse, hD, hDb⟩ := hds.1 rfl
        subst hdse
        replace hmk := MkF.push hmk0 hmk hD hDb
        clear hD hDb hds
        revert hmk
        generalize ({ target := .collected D, args := #[] } :: b6 : List Deferred) = eA
        intro hmk
        refine ⟨fun hs => ?_, fun k c hs hc => ?_⟩
        ·have hs : q3 = 0 := hs
         subst hs
         replace h := cond_t h rfl
         refine blk_n (blk_n ?_)
         obtain rfl := Option.some.inj h
         exact hQ _ _ _ ⟨d8, hfr, hmk, q2, c6, d5, d6, e5, e6, n4, m5, o4, p4, q4, n5, r4, m3⟩
        ·have hs : q3 = k + 1 := hs
         match k, hs, hc with
         | 0, hs, hc =>
          subst hs
          obtain rfl := Option.some.inj hc
          replace h := cond_f h rfl
          refine E_exit ?_
          refine blk_hit ?_
          refine blk_n ?_
          obtain rfl := Option.some.inj h
          exact hQ _ _ _ ⟨d8, hfr, hmk, q2, c6, d5, d6, e5, e6, n4, m5, o4, p4, q4, n5, r4, m3⟩
         | n + 1, _, hc => exact absurd hc (by simp)
      ·clear hx
       obtain ⟨s9, hfr, hmk, e8, g8, i8, j8, k8, l8, c7, d7, e7, g7, i7, j7, l7, m7⟩ := hR
       refine E_region (EL_pur (v := .int .i64 ((w64 (n0 + (1 : Int))))) (P_int m7 rfl rfl) .plain rfl ?_)
       refine EL_pur (v := .int .i64 ((w64 (n0 + (1 : Int))))) (P_move rfl) .plain rfl ?_
       exact EL_nil (thn_n (y8 (r3, (w64 (n0 + (1 : Int)))) _ _ _ ⟨s9, hfr, hmk, e8, g8, i8, j8, k8, l8, c7, d7, e7, g7, i7, j7, l7, rfl⟩ h))
     ·refine E_cond_false (Eq.trans (show ev _ _ = .bool ((decide (n0 < ((j1).length : Int)))) from rfl) (congrArg Value.bool t5)) ?_
      refine E_exit ?_
      refine thn_e ?_
      refine thn_e ?_
      refine blk_hit ?_
      refine blk_n ?_
      obtain rfl := Option.some.inj h
      exact hQ _ _ _ ⟨m6, hfr, hmk, q2, c4, d5, d4, n4, j3, o4, p4⟩
    ·clear hx
     obtain ⟨t9, hfr, hmk, m8, n8, o8, p8, n7, o7, p7, q7⟩ := hR
     refine E_region (EL_pur (v := .int .i64 ((w64 (j0 + (1 : Int))))) (P_int q7 rfl rfl) .plain rfl ?_)
     refine EL_pur (v := .int .i64 ((w64 (j0 + (1 : Int))))) (P_move rfl) .plain rfl ?_
     exact EL_nil (thn_n (x8 (s3, (w64 (j0 + (1 : Int)))) _ _ _ ⟨t9, hfr, hmk, m8, n8, o8, p8, n7, o7, p7, rfl⟩ h))
   ·refine E_cond_false (Eq.trans (show ev _ _ = .bool ((decide (j0 < ((u0).length : Int)))) from rfl) (congrArg Value.bool r5)) ?_
    refine E_exit ?_
    refine thn_e ?_
    refine thn_e ?_
    refine blk_hit ?_
    obtain rfl := Option.some.inj h
    exact hQ _ _ _ ⟨l6, hfr, hmk, x5, y5⟩
  ·clear hx
   obtain ⟨q8, hfr, hmk, i5, i6⟩ := hR
   refine E_seq (E_region (EL_do .plain rfl (D_loadO (g := q8) Try.isAgg3 Try.sizeOf3 i5 i6 fun cB u9 => ?_)))
   obtain rfl := RV_int.1 u9
   refine EL_do .plain rfl (D_storeOc (g := q8) (v := .int .i64 (u3)) Try.sizeOf3 i5 i6 rfl (RV_int.2 rfl) fun dB eB hs b189 cb => ?_)
   clear cb
   have hfr := hfr.stp hs
   have hmk := hmk.stp hs
   refine EL_pur (v := .int .i64 (0)) (P_assign rfl) .plain rfl ?_
   refine EL_nil (thn_n (E_ret (endM (.inr rfl) hmk fun iB l9 hs => ?_)))
   have hfr := hfr.stp hs
   have b189 := b189.stp hs rfl
   obtain rfl := Option.some.inj h
   obtain ⟨ad191, cv191, hp191, a9, cr191⟩ := ob_read Try.isAgg3 Try.sizeOf3 b189
   obtain rfl := RV_int.1 cr191
   exact endm_ct rfl rfl ((show _ = p2 from i5).trans hp191) a9 (show _ = .int .i64 (0) from rfl) ⟨_, hfr, _, _, rfl, rfl, rfl⟩
/-- griffe/fault.Groups -/
def f39 (x0 : FaultLoom) (x1 : List FaultDamage) : Option ((List (List Int)) × Int) :=
 jn (σ := (List (List Int))) (fun d5 =>
  (f68 ((⟨x0⟩ : FaultFaultLoom)) x1).bind fun i2 =>
  Option.bind (α := (List (List Int))) (
   lp (σ := (List (List Int)) × Int) (fun b7 (e3, j0) =>
    bif (decide (j0 < ((i2).length : Int))) then
     Option.bind (α := (List (List Int))) (
      (idx i2 j0).bind fun c7 =>
      (f69 e3 ((fun a0 => f70 a0 i2 c7))).bind fun j3 =>
      Option.bind (α := (List (List Int)) × Int) (
       bif (decide (j3 < (0 : Int))) then
        (apnd 24 e3 ([([] : List Int)] : List (List Int))).bind fun p5 =>
        some (p5, ((e3).length : Int))
       else
        some (e3, j3)
       ) fun (c4, d2) =>
      (idx c4 d2).bind fun q5 =>
      (apnd 8 q5 (([j0] : List Int))).bind fun r5 =>
      some ((List.set c4 (Int.toNat d2) r5))
      ) fun d4 =>
     b7 (d4, (w64 (j0 + (1 : Int))))
    else
     some (e3)
    ) big (d5, (0 : Int))
   ) fun i4 =>
  some (i4, (0 : Int))
  ) fun k7 =>
 (f18 x0 x1).bind fun m3 =>
 bif (m3 != (0 : Int)) then
  some ([], m3)
 else
  k7 (([] : List (List Int)))
theorem en39 : Enters Try.prog 39 := enters_of Try.func39 (by kernel_rfl) rfl
theorem wk39 {gI : Gh} {wI : World} {x0 : FaultLoom} {x1 : List FaultDamage} {up0 : Value} (rp0 : RV gI.m wI x0 up0) {up1 : Value} (rp1 : RV gI.m wI x1 up1) {r : (List (List Int)) × Int} (h : f39 x0 x1 = some r) : Fn Try.prog 39 #[up0, up1] gI wI (fun m w v => ∃ y0 y1, v = .tuple #[y0, y1] ∧ RV m w (r.1) y0 ∧ y1 = .int .i64 (r.2)) := by
 unfold f39 at h
 refine fn_of_E Try.func39 rfl (Nat.le_of_ble_eq_true rfl) fun g0 hm hfr => ?_
 have rp0 : RV g0.m wI x0 up0 := hm ▸ rp0
 have rp1 : RV g0.m wI x1 up1 := hm ▸ rp1
 show E _ 50 none _ _ _ _ _
 refine E_seq (E_region (EL_do .plain rfl (D_box (g := g0) rfl rp0 fun g1 w1 p1 hs q1 => ?_)))
 have hfr := hfr.ext hs
 have rp0 := rp0.ext hs
 have rp1 := rp1.ext hs
 refine EL_pur (v := .slice none 0 0) (P_assign rfl) .plain rfl ?_
 have b2 : RO 9004 g1 w1 22 [] (.slice none 0 0) := RO.nil
 have c2 : Pool (RS (α := Int) 3) 9504 g1 w1 [] [] none := Pool.nil
 refine EL_pur (v := .int .i64 (0)) (P_assign rfl) .plain rfl ?_
 refine EL_nil (thn_n (E_joinC h (fun (s : (List (List Int))) e w => ∃ (g : Gh) (v4 : Value), Fr gI wI g w ∧ e 1 = up1 ∧ RV g.m w (x1 : List FaultDamage) up1 ∧ e 2 = p1 ∧ PT g.m w (x0 : FaultLoom) p1 ∧ e 4 = v4 ∧ NS (RS (α := Int) 3) 9004 9504 g w 22 (s : List (List Int)) v4) (fun X7 k7 t7 h => ?_) ?_))
 ·refine E_seq (E_region (EL_do .plain rfl (D_load (g := g1) Try.isAgg28 Try.sizeOf28 rfl q1 fun v8 r8 => ?_)))
  refine EL_pur (v := up1) (P_move rfl) .plain rfl ?_
  obtain ⟨m3, i7, h⟩ := bsome h
  refine EL_do .plain rfl (D_call (g := g1) (vs := [v8, up1]) en18 (.cons rfl (.cons rfl .nil)) (wk18 r8 rp1 i7) fun g9 w9_ v9 hs hr => ?_)
  have hfr := hfr.ext hs
  have rp0 := rp0.ext hs
  have rp1 := rp1.ext hs
  have q1 := q1.ext hs
  have b2 := b2.ext hs
  have c2 := c2.ext (rowS _) hs
  have r8 := r8.ext hs
  subst hr
  refine EL_pur (v := .int .i64 (m3)) (P_assign rfl) .plain rfl ?_
  refine EL_nil (thn_n (E_seq (E_region (EL_pur (v := .int .i64 (m3)) (P_move rfl) .plain rfl ?_))))
  refine EL_pur (v := .bool ((m3 != (0 : Int)))) (P_int rfl rfl rfl) .plain rfl ?_
  refine EL_nil (thn_n ?_)
  rcases csome h with ⟨z4, h⟩ | ⟨z4, h⟩
  ·refine E_cond_true (Eq.trans (show ev _ _ = .bool ((m3 != (0 : Int))) from rfl) (congrArg Value.bool z4)) ?_
   refine E_seq (E_region (EL_pur (v := .int .i64 (m3)) (P_move rfl) .plain rfl ?_))
   refine EL_pur (v := .slice none 0 0) (P_assign rfl) .plain rfl ?_
   refine EL_pur (v := .int .i64 (m3)) (P_assign rfl) .plain rfl ?_
   refine EL_nil (thn_n (E_ret (thn_r ?_)))
   obtain rfl := Option.some.inj h
   exact end2 rfl rfl (show _ = .slice none 0 0 from rfl) (show _ = .int .i64 (m3) from rfl) ⟨_, hfr, _, _, rfl, RV_nil, rfl⟩
  ·refine E_cond_false (Eq.trans (show ev _ _ = .bool ((m3 != (0 : Int))) from rfl) (congrArg Value.bool z4)) ?_
   exact E_skip (thn_n (t7 (([] : List (List Int))) _ _ ⟨g9, (.slice none 0 0), hfr, rfl, rp1, rfl, q1, rfl, ⟨_, b2, c2⟩⟩ h))
 ·rintro d5 m8 o9 ⟨t5, s6, hfr, t6, m2, u6, p2, v6, ⟨d8, q2, s2⟩⟩ h
  refine E_seq (E_region (EL_do .plain rfl (D_load (g := t5) Try.isAgg28 Try.sizeOf28 u6 p2 fun u5 u3 => ?_)))
  have z3 : RV t5.m _ (⟨x0⟩ : FaultFaultLoom) (.agg (setCh [[.int .i64 0, .slice none 0 0, .int .i64 0, .slice none 0 0]] [(0, u5)]).flatten.toArray) := RV_build rfl (rep_last (RV.cells u3))
  generalize j7 : (Value.agg (setCh [[.int .i64 0, .slice none 0 0, .int .i64 0, .slice none 0 0]] [(0, u5)]).flatten.toArray) = d7 at z3
  refine EL_pur (v := d7) (j7 ▸ P_build (vs := [(0, u5)]) [[.int .i64 0, .slice none 0 0, .int .i64 0, .slice none 0 0]] lay_98 rfl rfl (.cons rfl .nil) ⟨⟨_, rfl, cells_size u3⟩, trivial⟩) .plain rfl ?_
  refine EL_pur (v := up1) (P_move t6) .plain rfl ?_
  obtain ⟨i2, l7, h⟩ := bsome h
  refine EL_do .plain rfl (D_call (g := t5) (vs := [d7, up1]) en68 (.cons rfl (.cons rfl .nil)) (wk68 z3 m2 l7) fun u7 n8 v7 hs hr => ?_)
  have hfr := hfr.ext hs
  have m2 := m2.ext hs
  have p2 := p2.ext hs
  have q2 := q2.ext hs
  have s2 := s2.ext (rowS _) hs
  have u3 := u3.ext hs
  have z3 := z3.ext hs
  have j4 := hr
  refine EL_do .plain rfl (D_allocOc (g := u7) 2007 ([] : List (List Str)) Try.zeroValue78 (fun m w => ⟨_, rep_nil, rfl⟩) fun e7 x7 o3 hs b17 cb => ?_)
  have hfr := hfr.stp hs
  have m2 := m2.stp hs
  have p2 := p2.stp hs
  have q2 := q2.stp hs rfl
  have s2 := s2.stp (rowS _) hs rfl
  have u3 := u3.stp hs
  have z3 := z3.stp hs
  have j4 := j4.stp hs
  have e8 : OSF 2007 60700 0 e7 x7 36 78 ([] : List (List Str)) o3 := cb.osf (by rfl)
  clear cb
  refine EL_do .plain rfl (D_storeOc (g := e7) (v := v7) Try.sizeOf78 rfl b17 rfl j4 fun p9 q9 hs b18 cb => ?_)
  clear cb
  have hfr := hfr.stp hs
  have m2 := m2.stp hs
  have p2 := p2.stp hs
  have q2 := q2.stp hs rfl
  have s2 := s2.stp (rowS _) hs rfl
  have u3 := u3.stp hs
  have z3 := z3.stp hs
  have j4 := j4.stp hs
  obtain ⟨gp18, hs, qp18⟩ := OB.pub b18
  have hfr := hfr.stp hs
  have m2 := m2.stp hs
  have p2 := p2.stp hs
  have q2 := q2.stp hs rfl
  have s2 := s2.stp (rowS _) hs rfl
  have u3 := u3.stp hs
  have z3 := z3.stp hs
  have j4 := j4.stp hs
  refine EL_nil (thn_n ?_)
  obtain ⟨i4, hx, h⟩ := bsome h
  refine E_join (fun e w => ∃ (g : Gh) (v4 : Value), Fr gI wI g w ∧ e 4 = v4 ∧ NS (RS (α := Int) 3) 9004 9504 g w 22 (i4 : List (List Int)) v4) (fun Q' hQ => ?_) (fun g8 o8 hR => ?_)
  ·replace h := hx
   clear hx
   refine E_seq (E_region (EL_do .plain rfl (D_load (g := gp18) Try.isAgg78 Try.sizeOf78 rfl qp18 fun m4 g7 => ?_)))
   refine EL_pur (v := .int .i64 ((i2).length : Int)) (P_len Try.underlying78 rfl g7) .plain rfl ?_
   refine EL_pur (v := .int .i64 (0)) (P_move rfl) .plain rfl ?_
   refine EL_nil (thn_n (E_block ?_))
   refine E_lp h (fun (s : (List (List Int)) × Int) e w => ∃ (g : Gh) (v4 : Value), Fr gI wI g w ∧ e 4 = v4 ∧ NS (RS (α := Int) 3) 9004 9504 g w 22 (s.1 : List (List Int)) v4 ∧ e 7 = o3 ∧ PT g.m w (i2 : List (List Str)) o3 ∧ e 21 = m4 ∧ RV g.m w (i2 : List (List Str)) m4 ∧ e 22 = .int .i64 (((i2).length : Int)) ∧ e 23 = .int .i64 (s.2)) ⟨gp18, (s6), hfr, v6, ⟨_, q2, s2⟩, rfl, qp18, rfl, g7, rfl, rfl⟩ (fun X71 b7 m7 => ?_)
   rintro ⟨e3, j0⟩ p8 r9 ⟨x5, s3, hfr, e4, ⟨i8, i1, j1⟩, u4, o0, n4, n0, o4, p3⟩ h
   refine E_seq (E_region (EL_pur (v := .bool ((decide (j0 < ((i2).length : Int))))) (P_int p3 o4 rfl) .plain rfl ?_))
   refine EL_nil (thn_n (E_seq ?_))
   rcases csome h with ⟨b5, h⟩ | ⟨b5, h⟩
   ·refine E_cond_true (Eq.trans (show ev _ _ = .bool ((decide (j0 < ((i2).length : Int)))) from rfl) (congrArg Value.bool b5)) ?_
    refine E_skip (thn_n ?_)
    obtain ⟨d4, hx, h⟩ := bsome h
    refine E_join (fun e w => ∃ (g : Gh) (v4 : Value), Fr gI wI g w ∧ e 4 = v4 ∧ NS (RS (α := Int) 3) 9004 9504 g w 22 (d4 : List (List Int)) v4 ∧ e 7 = o3 ∧ PT g.m w (i2 : List (List Str)) o3 ∧ e 21 = m4 ∧ RV g.m w (i2 : List (List Str)) m4 ∧ e 22 = .int .i64 (((i2).length : Int)) ∧ e 23 = .int .i64 (j0)) (fun Q' hQ => ?_) (fun j8 q8 hR => ?_)
    ·replace h := hx
     clear hx
     refine E_block ?_
     refine E_seq (E_region (EL_pur (v := .int .i64 (j0)) (P_move p3) .plain rfl ?_))
     obtain ⟨c7, y5, h⟩ := bsome h
     refine EL_pur (v := ePtr m4 j0 1) (P_indexAddr (α := List Str) Try.underlying78 Try.sizeOf36 n4 n0 p3 y5) .plain rfl ?_
     have z2 := PT_idx n0 y5
     refine EL_do .plain rfl (D_load (g := x5) Try.isAgg36 Try.sizeOf36 rfl z2 fun y7 d3 => ?_)
     refine EL_do .plain rfl (D_allocOc (g := x5) 2009 ([] : List Str) Try.zeroValue36 (fun m w => ⟨_, rep_nil, rfl⟩) fun z5 n7 p4 hs b100 cb => ?_)
     have hfr := hfr.stp hs
     have i1 := i1.stp hs rfl
     have j1 := j1.stp (rowS _) hs rfl
     have o0 := o0.stp hs
     have n0 := n0.stp hs
     have z2 := z2.stp hs
     have d3 := d3.stp hs
     have z7 : OSF 2009 60900 0 z5 n7 9 36 ([] : List Str) p4 := cb.osf (by rfl)
     clear cb
     refine EL_pur (v := .int .i64 (j0)) (P_assign rfl) .plain rfl ?_
     refine EL_do .plain rfl (D_storeOc (g := z5) (v := y7) Try.sizeOf36 rfl b100 rfl d3 fun t8 o7 hs b101 cb => ?_)
     clear cb
     have hfr := hfr.stp hs
     have i1 := i1.stp hs rfl
     have j1 := j1.stp (rowS _) hs rfl
     have o0 := o0.stp hs
     have n0 := n0.stp hs
     have z2 := z2.stp hs
     have d3 := d3.stp hs
     obtain ⟨gp101, hs, qp101⟩ := OB.pub b101
     have hfr := hfr.stp hs
     have i1 := i1.stp hs rfl
     have j1 := j1.stp (rowS _) hs rfl
     have o0 := o0.stp hs
     have n0 := n0.stp hs
     have z2 := z2.stp hs
     have d3 := d3.stp hs
     refine EL_nil (thn_n (E_seq (E_region (EL_pur (v := s3) (P_move e4) .plain rfl ?_))))
     refine EL_pur (v := (.func (.func 70) #[] #[o3, p4])) (P_makeFunc (capf_0_2 (show ev _ _ = o3 from u4) (show ev _ _ = p4 from rfl))) .plain rfl ?_
     obtain ⟨j3, x6, h⟩ := bsome h
     refine EL_do .plain rfl (D_callN (g := gp101) (R := (RS (α := Int) 3)) (vs := [s3, (.func (.func 70) #[] #[o3, p4])]) (fun h => h.2) ⟨_, i1, j1⟩ en69 (.cons rfl (.cons rfl .nil)) (fun g1 hchN hrN => wk69 hrN (FnV1.ch (g := gp101) (w := o7) ⟨70, #[], #[o3, p4], rfl, en70, fun g' w' hch a0 b0 r hu0 hr => by exact Fn.mono (wk70 hu0 (o0.ch hch) (qp101.ch hch) hr) fun _ _ _ h => RV_bool.2 h⟩ hchN) x6) fun a6 k8 _ x8 hs hr => ?_)
     have hfr := hfr.ext hs
     have i1 := i1.ext hs
     have j1 := j1.ext (rowS _) hs
     have o0 := o0.ext hs
     have n0 := n0.ext hs
     have z2 := z2.ext hs
     have d3 := d3.ext hs
     have qp101 := qp101.ext hs
     subst hr
     refine EL_pur (v := .int .i64 (j3)) (P_assign rfl) .plain rfl ?_
     refine EL_nil (thn_n ?_)
     obtain ⟨⟨c4, d2⟩, hx, h⟩ := bsome h
     refine E_join (fun e w => ∃ (g : Gh) (v4 : Value), Fr gI wI g w ∧ e 4 = v4 ∧ NS (RS (α := Int) 3) 9004 9504 g w 22 (c4 : List (List Int)) v4 ∧ e 7 = o3 ∧ PT g.m w (i2 : List (List Str)) o3 ∧ e 8 = .int .i64 (j0) ∧ e 10 = .int .i64 (d2) ∧ e 21 = m4 ∧ RV g.m w (i2 : List (List Str)) m4 ∧ e 22 = .int .i64 (((i2).length : Int)) ∧ e 23 = .int .i64 (j0)) (fun Q' hQ => ?_) (fun l8 p7 hR => ?_)
     ·replace h := hx
      clear hx
      refine E_seq (E_region (EL_pur (v := .int .i64 (j3)) (P_move rfl) .plain rfl ?_))
      refine EL_pur (v := .bool ((decide (j3 < (0 : Int))))) (P_int rfl rfl rfl) .plain rfl ?_
      refine EL_nil (thn_n ?_)
      rcases csome h with ⟨x4, h⟩ | ⟨x4, h⟩
      ·refine E_cond_true (Eq.trans (show ev _ _ = .bool ((decide (j3 < (0 : Int)))) from rfl) (congrArg Value.bool x4)) ?_
       refine E_seq (E_region (EL_pur (v := s3) (P_move e4) .plain rfl ?_))
       refine EL_pur (v := .int .i64 ((e3).length : Int)) (P_lenN Try.underlying71 rfl i1 j1) .plain rfl ?_
       refine EL_pur (v := .int .i64 ((e3).length : Int)) (P_assign rfl) .plain rfl ?_
       refine EL_nil (thn_n (E_region (EL_pur (v := s3) (P_move e4) .plain rfl ?_)))
       refine EL_do .plain rfl (D_buildSlice (g := a6) 3036 (xs := ([⟨.slice none 0 0, rfl⟩] : List Fv)) (vs := [.slice none 0 0]) Try.underlying71 Try.sizeOf22 Try.zeroValue22 rfl rfl (.cons rfl .nil) (RVs.cons (RV_fv.2 rfl) RVs.nil) rfl rfl fun q7 y8 z8 hs o109 r7 hxt hfl => ?_)
       have hfr := hfr.stp hs
       have i1 := i1.stp hs rfl
       have j1 := j1.stp (rowS _) hs rfl
       have o0 := o0.stp hs
       have n0 := n0.stp hs
       have z2 := z2.stp hs
       have d3 := d3.stp hs
       have qp101 := qp101.stp hs
       obtain ⟨p5, y6, h⟩ := bsome h
       refine EL_do .plain rfl (D_appendN (g := q7) (R := (RS (α := Int) 3)) (i := 9004) (j := 9504) (j' := 4037) (rowS _) ⟨.slice none 0 0, rfl⟩ Try.underlying71 info_22 rfl rfl ⟨_, i1, j1⟩ rfl r7 ⟨OS.nil, RV_nil⟩ y6 rfl rfl rfl rfl fun a9 b9 b6 ga110 hs hs2 bb110 => ?_)
       have hfr := hfr.stp hs
       have o0 := o0.stp hs
       have n0 := n0.stp hs
       have z2 := z2.stp hs
       have d3 := d3.stp hs
       have qp101 := qp101.stp hs
       have hfr := hfr.stp hs2
       have o0 := o0.stp hs2
       have n0 := n0.stp hs2
       have z2 := z2.stp hs2
       have d3 := d3.stp hs2
       have qp101 := qp101.stp hs2
       obtain ⟨c9, b110, c110⟩ := bb110
       clear hs hs2
       refine EL_pur (v := b6) (P_assign rfl) .plain rfl ?_
       refine EL_nil ?_
       obtain ⟨rfl, rfl⟩ := pairs2 h
       exact hQ _ _ ⟨ga110, (b6), hfr, rfl, ⟨_, b110, c110⟩, u4, o0, rfl, rfl, n4, n0, o4, p3⟩
      ·refine E_cond_false (Eq.trans (show ev _ _ = .bool ((decide (j3 < (0 : Int)))) from rfl) (congrArg Value.bool x4)) ?_
       refine E_skip ?_
       obtain ⟨rfl, rfl⟩ := pairs2 h
       exact hQ _ _ ⟨a6, (s3), hfr, e4, ⟨_, i1, j1⟩, u4, o0, rfl, rfl, n4, n0, o4, p3⟩
     ·clear hx
      obtain ⟨c6, q3, hfr, q4, ⟨a8, m1, r3⟩, d6, z1, e6, s4, e5, u0, i5, j5⟩ := hR
      refine E_region (EL_pur (v := q3) (P_move q4) .plain rfl ?_)
      refine EL_pur (v := .int .i64 (d2)) (P_move s4) .plain rfl ?_
      refine EL_pur (v := q3) (P_move q4) .plain rfl ?_
      refine EL_pur (v := .int .i64 (d2)) (P_move s4) .plain rfl ?_
      obtain ⟨q5, z6, h⟩ := bsome h
      obtain ⟨d9, hri114, hrn114, hxn114⟩ := Pool.idx r3 z6
      refine EL_pur (v := ePtr q3 d2 1) (P_indexAddrM (α := Fv) Try.underlying71 Try.sizeOf22 rfl (RO.toM m1) rfl hri114) .plain rfl ?_
      refine EL_do .plain rfl (D_loadM (g := c6) (α := Fv) Try.isAgg22 Try.sizeOf22 rfl (RO.toM m1) hri114 fun e9 j2 => ?_)
      obtain rfl := RV_fv.1 j2
      have j2 := (r3.2.1 _ _ _ (by simp) hrn114 hxn114).2
      refine EL_pur (v := .int .i64 (j0)) (P_move e6) .plain rfl ?_
      refine EL_do .plain rfl (D_buildSlice (g := c6) 3045 (xs := ([j0] : List Int)) (vs := [.int .i64 (j0)]) Try.underlying22 Try.sizeOf3 Try.zeroValue3 rfl rfl (.cons rfl .nil) (RVs.cons (RV_int.2 rfl) RVs.nil) rfl rfl fun i9 j9 k9 hs o116 i3 hxt hfl => ?_)
      have hfr := hfr.stp hs
      have m1 := m1.stp hs rfl
      have r3 := r3.stp (rowS _) hs rfl
      have z1 := z1.stp hs
      have u0 := u0.stp hs
      have j2 := j2.stp hs
      obtain ⟨r5, a7, h⟩ := bsome h
      obtain ⟨ga117, _, hs, hw117, ck117⟩ := Pool.take (rowS _) r3 hrn114 hxn114 4046
      have hfr := hfr.stp hs
      have m1 := m1.stp hs rfl
      have z1 := z1.stp hs
      have u0 := u0.stp hs
      have j2 := j2.stp hs
      have i3 := i3.stp hs
      have o116 := o116.stp hs rfl
      refine EL_do .plain rfl (D_append (g := ga117) (i := 4046) Try.underlying22 info_3 rfl rfl hw117.1 hw117.2 rfl i3 a7 fun l9 m9 i6 hs o117 c5 _ => ?_)
      have hfr := hfr.stp hs
      have m1 := m1.stp hs rfl
      have ck117 := ck117.stp (rowS _) hs rfl
      have z1 := z1.stp hs
      have u0 := u0.stp hs
      have j2 := j2.stp hs
      have i3 := i3.stp hs
      have o116 := o116.stp hs rfl
      obtain ⟨gb117, _, hs, cp117⟩ := Pool.put (rowS _) ck117 ⟨i6, one_row c5⟩ ⟨o117, c5⟩ rfl
      have hfr := hfr.stp hs
      have m1 := m1.stp hs rfl
      have z1 := z1.stp hs
      have u0 := u0.stp hs
      have j2 := j2.stp hs
      have i3 := i3.stp hs
      have o116 := o116.stp hs rfl
      refine EL_pur (v := ePtr q3 d2 1) (P_indexAddrM (α := Fv) Try.underlying71 Try.sizeOf22 rfl (RO.toM m1) rfl hri114) .plain rfl ?_
      refine EL_do .plain rfl (D_storeRO (g := gb117) ⟨i6, one_row c5⟩ Try.sizeOf22 rfl m1 hri114 rfl fun p7 hs b119 => ?_)
      have hfr := hfr.stp hs
      have cp117 := cp117.stp (rowS _) hs rfl
      have z1 := z1.stp hs
      have u0 := u0.stp hs
      have j2 := j2.stp hs
      have i3 := i3.stp hs
      have o116 := o116.stp hs rfl
      refine EL_nil (blk_n ?_)
      obtain rfl := Option.some.inj h
      exact hQ _ _ ⟨gb117, (q3), hfr, q4, ⟨_, b119, cp117⟩, d6, z1, e5, u0, i5, j5⟩
    ·clear hx
     obtain ⟨s7, j6, hfr, k6, ⟨b8, l6, m6⟩, n6, o6, l5, m5, n5, o5⟩ := hR
     refine E_region (EL_pur (v := .int .i64 ((w64 (j0 + (1 : Int))))) (P_int o5 rfl rfl) .plain rfl ?_)
     refine EL_pur (v := .int .i64 ((w64 (j0 + (1 : Int))))) (P_move rfl) .plain rfl ?_
     exact EL_nil (thn_n (m7 (d4, (w64 (j0 + (1 : Int)))) _ _ ⟨s7, (j6), hfr, k6, ⟨_, l6, m6⟩, n6, o6, l5, m5, n5, rfl⟩ h))
   ·refine E_cond_false (Eq.trans (show ev _ _ = .bool ((decide (j0 < ((i2).length : Int)))) from rfl) (congrArg Value.bool b5)) ?_
    refine E_exit ?_
    refine thn_e ?_
    refine thn_e ?_
    refine blk_hit ?_
    obtain rfl := Option.some.inj h
    exact hQ _ _ ⟨x5, (s3), hfr, e4, ⟨_, i1, j1⟩⟩
  ·clear hx
   obtain ⟨n9, r4, hfr, p6, ⟨c8, q6, r6⟩⟩ := hR
   refine E_seq (E_region (EL_pur (v := r4) (P_move p6) .plain rfl ?_))
   refine EL_pur (v := r4) (P_assign rfl) .plain rfl ?_
   refine EL_pur (v := .int .i64 (0)) (P_assign rfl) .plain rfl ?_
   refine EL_nil (thn_n (E_ret ?_))
   obtain ⟨gp122, hs, rp122⟩ := NS.pub (R := (RS (α := Int) 3)) (fun h => h.2) ⟨_, q6, r6⟩
   have hfr := hfr.stp hs
   obtain rfl := Option.some.inj h
   exact end2 rfl rfl (show _ = r4 from rfl) (show _ = .int .i64 (0) from rfl) ⟨_, hfr, _, _, rfl, rp122, rfl⟩
/-- griffe/fault.Look -/
def f41 (x0 : FaultLoom) (x1 : List FaultDamage) (x2 : Int) : Option (Int × Int × Int × Int) :=
 jn (σ := Int × Int) (fun (b6, c6) =>
  jn (σ := Int × Int) (fun (e7, g7) =>
   (f68 ((⟨x0⟩ : FaultFaultLoom)) x1).bind fun u0 =>
   Option.bind (α := Int × Int × Int) (
    lp (σ := Int × Int × Int × Int) (fun c9 (b5, c5, d5, j0) =>
     bif (decide (j0 < (min64 x2 ((((x0).Design).Rows).length : Int)))) then
      Option.bind (α := Int × Int × Int) (
       lp (σ := Int × Int × Int × Int) (fun d9 (d2, i2, j1, o0) =>
        bif (decide (o0 < ((((x0).Harness).Warps).length : Int))) then
         Option.bind (α := Int × Int × Int) (
          Option.bind (α := Int) (
           lp (σ := Int × Int) (fun e9 (z1, i1) =>
            bif (decide (i1 < ((u0).length : Int))) then
             Option.bind (α := Int) (
              (idx u0 i1).bind fun g9 =>
              (idx g9 j0).bind fun i9 =>
              (idx (i9).b o0).bind fun u3 =>
              bif (u3 == (120 : UInt8)) then
               some ((w64 (z1 + (1 : Int))))
              else
               some (z1)
              ) fun q2 =>
             e9 (q2, (w64 (i1 + (1 : Int))))
            else
             some (z1)
            ) big ((0 : Int), (0 : Int))
           ) fun n0 =>
          bif (decide ((max64 n0 (w64 (((u0).length : Int) - n0))) < j1)) then
           some (j0, o0, (max64 n0 (w64 (((u0).length : Int) - n0))))
          else
           some (d2, i2, j1)
          ) fun (m3, o3, p3) =>
         d9 (m3, o3, p3, (w64 (o0 + (1 : Int))))
        else
         some (d2, i2, j1)
        ) big (b5, c5, d5, (0 : Int))
       ) fun (q3, r3, s3) =>
      c9 (q3, r3, s3, (w64 (j0 + (1 : Int))))
     else
      some (b5, c5, d5)
     ) big (e7, g7, (w64 (((x1).length : Int) + (1 : Int))), (0 : Int))
    ) fun (j2, m2, p2) =>
   some (j2, m2, p2, (0 : Int))
   ) fun bB =>
  bif (((x1).length : Int) == (0 : Int)) then
   some ((0 : Int), (0 : Int), (0 : Int), (7 : Int))
  else
   bB (b6, c6)
  ) fun k6 =>
 (f54 x0 x1 x2).bind fun y9 =>
 bif (y9 != (0 : Int)) then
  some ((0 : Int), (0 : Int), (0 : Int), y9)
 else
  k6 ((0 : Int), (0 : Int))
theorem en41 : Enters Try.prog 41 := enters_of Try.func41 (by kernel_rfl) rfl
theorem wk41 {gI : Gh} {wI : World} {x0 : FaultLoom} {x1 : List FaultDamage} {x2 : Int} {up0 : Value} (rp0 : RV gI.m wI x0 up0) {up1 : Value} (rp1 : RV gI.m wI x1 up1) {r : Int × Int × Int × Int} (h : f41 x0 x1 x2 = some r) : Fn Try.prog 41 #[up0, up1, .int .i64 (x2)] gI wI (fun m w v => ∃ y0 y1 y2 y3, v = .tuple #[y0, y1, y2, y3] ∧ y0 = .int .i64 (r.1) ∧ y1 = .int .i64 (r.2.1) ∧ y2 = .int .i64 (r.2.2.1) ∧ y3 = .int .i64 (r.2.2.2)) := by
 unfold f41 at h
 refine fn_of_E Try.func41 rfl (Nat.le_of_ble_eq_true rfl) fun g0 hm hfr => ?_
 have rp0 : RV g0.m wI x0 up0 := hm ▸ rp0
 have rp1 : RV g0.m wI x1 up1 := hm ▸ rp1
 show E _ 84 none _ _ _ _ _
 refine E_seq (E_region (EL_do .plain rfl (D_box (g := g0) rfl rp0 fun g1 w1 p1 hs q1 => ?_)))
 have hfr := hfr.ext hs
 have rp0 := rp0.ext hs
 have rp1 := rp1.ext hs
 refine EL_pur (v := .int .i64 (0)) (P_assign rfl) .plain rfl ?_
 refine EL_pur (v := .int .i64 (0)) (P_assign rfl) .plain rfl ?_
 refine EL_pur (v := .int .i64 (0)) (P_assign rfl) .plain rfl ?_
 refine EL_pur (v := .int .i64 (0)) (P_assign rfl) .plain rfl ?_
 refine EL_nil (thn_n (E_joinC h (fun (s : Int × Int) e w => ∃ (g : Gh) , Fr gI wI g w ∧ e 1 = up1 ∧ RV g.m w (x1 : List FaultDamage) up1 ∧ e 2 = .int .i64 (x2) ∧ e 3 = p1 ∧ PT g.m w (x0 : FaultLoom) p1 ∧ e 6 = .int .i64 (s.1) ∧ e 7 = .int .i64 (s.2)) (fun X6 k6 uB h => ?_) ?_))
 ·refine E_seq (E_region (EL_do .plain rfl (D_load (g := g1) Try.isAgg28 Try.sizeOf28 rfl q1 fun v7 r7 => ?_)))
  refine EL_pur (v := up1) (P_move rfl) .plain rfl ?_
  refine EL_pur (v := .int .i64 (x2)) (P_move rfl) .plain rfl ?_
  obtain ⟨y9, vB, h⟩ := bsome h
  refine EL_do .plain rfl (D_call (g := g1) (vs := [v7, up1, .int .i64 (x2)]) en54 (.cons rfl (.cons rfl (.cons rfl .nil))) (wk54 r7 rp1 vB) fun g8 w8_ v8 hs hr => ?_)
  have hfr := hfr.ext hs
  have rp0 := rp0.ext hs
  have rp1 := rp1.ext hs
  have q1 := q1.ext hs
  have r7 := r7.ext hs
  subst hr
  refine EL_pur (v := .int .i64 (y9)) (P_assign rfl) .plain rfl ?_
  refine EL_nil (thn_n (E_seq (E_region (EL_pur (v := .int .i64 (y9)) (P_move rfl) .plain rfl ?_))))
  refine EL_pur (v := .bool ((y9 != (0 : Int)))) (P_int rfl rfl rfl) .plain rfl ?_
  refine EL_nil (thn_n ?_)
  rcases csome h with ⟨a7, h⟩ | ⟨a7, h⟩
  ·refine E_cond_true (Eq.trans (show ev _ _ = .bool ((y9 != (0 : Int))) from rfl) (congrArg Value.bool a7)) ?_
   refine E_seq (E_region (EL_pur (v := .int .i64 (y9)) (P_move rfl) .plain rfl ?_))
   refine EL_pur (v := .int .i64 (0)) (P_assign rfl) .plain rfl ?_
   refine EL_pur (v := .int .i64 (0)) (P_assign rfl) .plain rfl ?_
   refine EL_pur (v := .int .i64 (0)) (P_assign rfl) .plain rfl ?_
   refine EL_pur (v := .int .i64 (y9)) (P_assign rfl) .plain rfl ?_
   refine EL_nil (thn_n (E_ret (thn_r ?_)))
   obtain rfl := Option.some.inj h
   exact end4 rfl rfl (show _ = .int .i64 (0) from rfl) (show _ = .int .i64 (0) from rfl) (show _ = .int .i64 (0) from rfl) (show _ = .int .i64 (y9) from rfl) ⟨_, hfr, _, _, _, _, rfl, rfl, rfl, rfl, rfl⟩
  ·refine E_cond_false (Eq.trans (show ev _ _ = .bool ((y9 != (0 : Int))) from rfl) (congrArg Value.bool a7)) ?_
   exact E_skip (thn_n (uB ((0 : Int), (0 : Int)) _ _ ⟨g8, hfr, rfl, rp1, rfl, rfl, q1, rfl, rfl⟩ h))
 ·rintro ⟨b6, c6⟩ kC aD ⟨xB, hfr, i7, j7, oA, pA, qA, rA, sA⟩ h
  refine E_joinC h (fun (s : Int × Int) e w => ∃ (g : Gh) , Fr gI wI g w ∧ e 1 = up1 ∧ RV g.m w (x1 : List FaultDamage) up1 ∧ e 2 = .int .i64 (x2) ∧ e 3 = p1 ∧ PT g.m w (x0 : FaultLoom) p1 ∧ e 6 = .int .i64 (s.1) ∧ e 7 = .int .i64 (s.2)) (fun X13 bB eB h => ?_) ?_
  ·refine E_seq (E_region (EL_pur (v := up1) (P_move i7) .plain rfl ?_))
   refine EL_pur (v := .int .i64 ((x1).length : Int)) (P_len Try.underlying29 rfl j7) .plain rfl ?_
   refine EL_pur (v := .bool ((((x1).length : Int) == (0 : Int)))) (P_int rfl rfl rfl) .plain rfl ?_
   refine EL_nil (thn_n ?_)
   rcases csome h with ⟨b7, h⟩ | ⟨b7, h⟩
   ·refine E_cond_true (Eq.trans (show ev _ _ = .bool ((((x1).length : Int) == (0 : Int))) from rfl) (congrArg Value.bool b7)) ?_
    refine E_seq (E_region (EL_pur (v := .int .i64 (0)) (P_assign rfl) .plain rfl ?_))
    refine EL_pur (v := .int .i64 (0)) (P_assign rfl) .plain rfl ?_
    refine EL_pur (v := .int .i64 (0)) (P_assign rfl) .plain rfl ?_
    refine EL_pur (v := .int .i64 (7)) (P_assign rfl) .plain rfl ?_
    refine EL_nil (thn_n (E_ret (thn_r ?_)))
    obtain rfl := Option.some.inj h
    exact end4 rfl rfl (show _ = .int .i64 (0) from rfl) (show _ = .int .i64 (0) from rfl) (show _ = .int .i64 (0) from rfl) (show _ = .int .i64 (7) from rfl) ⟨_, hfr, _, _, _, _, rfl, rfl, rfl, rfl, rfl⟩
   ·refine E_cond_false (Eq.trans (show ev _ _ = .bool ((((x1).length : Int) == (0 : Int))) from rfl) (congrArg Value.bool b7)) ?_
    exact E_skip (thn_n (eB (b6, c6) _ _ ⟨xB, hfr, i7, j7, oA, pA, qA, rA, sA⟩ h))
  ·rintro ⟨e7, g7⟩ lC bD ⟨j9, hfr, l7, z4, tA, d6, s2, uA, vA⟩ h
   refine E_seq (E_region (EL_do .plain rfl (D_load (g := j9) Try.isAgg28 Try.sizeOf28 d6 s2 fun k9 m7 => ?_)))
   have n7 : RV j9.m _ (⟨x0⟩ : FaultFaultLoom) (.agg (setCh [[.int .i64 0, .slice none 0 0, .int .i64 0, .slice none 0 0]] [(0, k9)]).flatten.toArray) := RV_build rfl (rep_last (RV.cells m7))
   generalize iB : (Value.agg (setCh [[.int .i64 0, .slice none 0 0, .int .i64 0, .slice none 0 0]] [(0, k9)]).flatten.toArray) = cB at n7
   refine EL_pur (v := cB) (iB ▸ P_build (vs := [(0, k9)]) [[.int .i64 0, .slice none 0 0, .int .i64 0, .slice none 0 0]] lay_98 rfl rfl (.cons rfl .nil) ⟨⟨_, rfl, cells_size m7⟩, trivial⟩) .plain rfl ?_
   refine EL_pur (v := up1) (P_move l7) .plain rfl ?_
   obtain ⟨u0, jB, h⟩ := bsome h
   refine EL_do .plain rfl (D_call (g := j9) (vs := [cB, up1]) en68 (.cons rfl (.cons rfl .nil)) (wk68 n7 z4 jB) fun dB mC m1 hs hr => ?_)
   have hfr := hfr.ext hs
   have z4 := z4.ext hs
   have s2 := s2.ext hs
   have m7 := m7.ext hs
   have n7 := n7.ext hs
   have yB := hr
   refine EL_pur (v := m1) (P_assign rfl) .plain rfl ?_
   refine EL_nil (thn_n (E_seq (E_region (EL_pur (v := up1) (P_move l7) .plain rfl ?_))))
   refine EL_pur (v := .int .i64 ((x1).length : Int)) (P_len Try.underlying29 rfl z4) .plain rfl ?_
   refine EL_pur (v := .int .i64 ((w64 (((x1).length : Int) + (1 : Int))))) (P_int rfl rfl rfl) .plain rfl ?_
   refine EL_pur (v := .int .i64 ((w64 (((x1).length : Int) + (1 : Int))))) (P_assign rfl) .plain rfl ?_
   refine EL_nil (thn_n ?_)
   obtain ⟨⟨j2, m2, p2⟩, hx, h⟩ := bsome h
   refine E_join (fun e w => ∃ (g : Gh) , Fr gI wI g w ∧ e 6 = .int .i64 (j2) ∧ e 7 = .int .i64 (m2) ∧ e 8 = .int .i64 (p2)) (fun Q' hQ => ?_) (fun zB nC hR => ?_)
   ·replace h := hx
    clear hx
    refine E_seq (E_region (EL_pur (v := .int .i64 (x2)) (P_move tA) .plain rfl ?_))
    refine EL_pur (v := fPtr p1 2) (P_fieldAddr at_28_1 d6 (PT.ptr s2)) .plain rfl ?_
    have l9 := PT_field (part_FaultLoom_1).1 s2
    refine EL_pur (v := fPtr (fPtr p1 2) 1) (P_fieldAddr at_26_1 rfl (PT.ptr l9)) .plain rfl ?_
    have kB := PT_field (part_Design_1).1 l9
    refine EL_do .plain rfl (D_load (g := dB) Try.isAgg22 Try.sizeOf22 rfl kB fun oC lB => ?_)
    refine EL_pur (v := .int .i64 ((((x0).Design).Rows).length : Int)) (P_len Try.underlying22 rfl lB) .plain rfl ?_
    refine EL_pur (v := .int .i64 (min64 x2 ((((x0).Design).Rows).length : Int))) (P_min rfl rfl) .plain rfl ?_
    refine EL_pur (v := .int .i64 (0)) (P_move rfl) .plain rfl ?_
    refine EL_nil (thn_n (E_block ?_))
    refine E_lp h (fun (s : Int × Int × Int × Int) e w => ∃ (g : Gh) , Fr gI wI g w ∧ e 3 = p1 ∧ PT g.m w (x0 : FaultLoom) p1 ∧ e 6 = .int .i64 (s.1) ∧ e 7 = .int .i64 (s.2.1) ∧ e 8 = .int .i64 (s.2.2.1) ∧ e 11 = m1 ∧ RV g.m w (u0 : List (List Str)) m1 ∧ e 40 = .int .i64 ((min64 x2 ((((x0).Design).Rows).length : Int))) ∧ e 41 = .int .i64 (s.2.2.2)) ⟨dB, hfr, d6, s2, uA, vA, rfl, rfl, yB, rfl, rfl⟩ (fun X212 c9 xA => ?_)
    rintro ⟨b5, c5, d5, j0⟩ aC pC ⟨c7, hfr, n6, e5, o6, p6, q6, q7, s7, p5, z3⟩ h
    refine E_seq (E_region (EL_pur (v := .bool ((decide (j0 < (min64 x2 ((((x0).Design).Rows).length : Int)))))) (P_int z3 p5 rfl) .plain rfl ?_))
    refine EL_nil (thn_n (E_seq ?_))
    rcases csome h with ⟨e6, h⟩ | ⟨e6, h⟩
    ·refine E_cond_true (Eq.trans (show ev _ _ = .bool ((decide (j0 < (min64 x2 ((((x0).Design).Rows).length : Int))))) from rfl) (congrArg Value.bool e6)) ?_
     refine E_skip (thn_n ?_)
     obtain ⟨⟨q3, r3, s3⟩, hx, h⟩ := bsome h
     refine E_join (fun e w => ∃ (g : Gh) , Fr gI wI g w ∧ e 3 = p1 ∧ PT g.m w (x0 : FaultLoom) p1 ∧ e 6 = .int .i64 (q3) ∧ e 7 = .int .i64 (r3) ∧ e 8 = .int .i64 (s3) ∧ e 11 = m1 ∧ RV g.m w (u0 : List (List Str)) m1 ∧ e 40 = .int .i64 ((min64 x2 ((((x0).Design).Rows).length : Int))) ∧ e 41 = .int .i64 (j0)) (fun Q' hQ => ?_) (fun bC qC hR => ?_)
     ·replace h := hx
      clear hx
      refine E_block ?_
      refine E_seq (E_region (EL_pur (v := .int .i64 (j0)) (P_move z3) .plain rfl ?_))
      refine EL_pur (v := .int .i64 (j0)) (P_assign rfl) .plain rfl ?_
      refine EL_nil (thn_n (E_seq (E_region (EL_pur (v := fPtr p1 0) (P_fieldAddr at_28_0 n6 (PT.ptr e5)) .plain rfl ?_))))
      have m9 := PT_field (part_FaultLoom_0).1 e5
      refine EL_pur (v := fPtr (fPtr p1 0) 1) (P_fieldAddr at_24_1 rfl (PT.ptr m9)) .plain rfl ?_
      have mB := PT_field (part_TieHarness_1).1 m9
      refine EL_do .plain rfl (D_load (g := c7) Try.isAgg22 Try.sizeOf22 rfl mB fun rC nB => ?_)
      refine EL_pur (v := .int .i64 ((((x0).Harness).Warps).length : Int)) (P_len Try.underlying22 rfl nB) .plain rfl ?_
      refine EL_pur (v := .int .i64 (0)) (P_move rfl) .plain rfl ?_
      refine EL_nil (thn_n (E_block ?_))
      refine E_lp h (fun (s : Int × Int × Int × Int) e w => ∃ (g : Gh) , Fr gI wI g w ∧ e 3 = p1 ∧ PT g.m w (x0 : FaultLoom) p1 ∧ e 6 = .int .i64 (s.1) ∧ e 7 = .int .i64 (s.2.1) ∧ e 8 = .int .i64 (s.2.2.1) ∧ e 11 = m1 ∧ RV g.m w (u0 : List (List Str)) m1 ∧ e 12 = .int .i64 (j0) ∧ e 40 = .int .i64 ((min64 x2 ((((x0).Design).Rows).length : Int))) ∧ e 41 = .int .i64 (j0) ∧ e 47 = .int .i64 (((((x0).Harness).Warps).length : Int)) ∧ e 48 = .int .i64 (s.2.2.2)) ⟨c7, hfr, n6, e5, o6, p6, q6, q7, s7, rfl, p5, z3, rfl, rfl⟩ (fun X309 d9 yA => ?_)
      rintro ⟨d2, i2, j1, o0⟩ cC sC ⟨n9, hfr, r6, s6, t6, u6, v6, c4, z2, t7, q5, r5, t5, d4⟩ h
      refine E_seq (E_region (EL_pur (v := .bool ((decide (o0 < ((((x0).Harness).Warps).length : Int))))) (P_int d4 t5 rfl) .plain rfl ?_))
      refine EL_nil (thn_n (E_seq ?_))
      rcases csome h with ⟨i6, h⟩ | ⟨i6, h⟩
      ·refine E_cond_true (Eq.trans (show ev _ _ = .bool ((decide (o0 < ((((x0).Harness).Warps).length : Int)))) from rfl) (congrArg Value.bool i6)) ?_
       refine E_skip (thn_n ?_)
       obtain ⟨⟨m3, o3, p3⟩, hx, h⟩ := bsome h
       refine E_join (fun e w => ∃ (g : Gh) , Fr gI wI g w ∧ e 3 = p1 ∧ PT g.m w (x0 : FaultLoom) p1 ∧ e 6 = .int .i64 (m3) ∧ e 7 = .int .i64 (o3) ∧ e 8 = .int .i64 (p3) ∧ e 11 = m1 ∧ RV g.m w (u0 : List (List Str)) m1 ∧ e 12 = .int .i64 (j0) ∧ e 40 = .int .i64 ((min64 x2 ((((x0).Design).Rows).length : Int))) ∧ e 41 = .int .i64 (j0) ∧ e 47 = .int .i64 (((((x0).Harness).Warps).length : Int)) ∧ e 48 = .int .i64 (o0)) (fun Q' hQ => ?_) (fun dC tC hR => ?_)
       ·replace h := hx
        clear hx
        refine E_block ?_
        refine E_seq (E_region (EL_pur (v := .int .i64 (o0)) (P_move d4) .plain rfl ?_))
        refine EL_pur (v := .int .i64 (o0)) (P_assign rfl) .plain rfl ?_
        refine EL_nil (thn_n (E_seq (E_region (EL_pur (v := .int .i64 (0)) (P_assign rfl) .plain rfl ?_))))
        refine EL_nil (thn_n ?_)
        obtain ⟨n0, hx, h⟩ := bsome h
        refine E_join (fun e w => ∃ (g : Gh) , Fr gI wI g w ∧ e 3 = p1 ∧ PT g.m w (x0 : FaultLoom) p1 ∧ e 6 = .int .i64 (d2) ∧ e 7 = .int .i64 (i2) ∧ e 8 = .int .i64 (j1) ∧ e 11 = m1 ∧ RV g.m w (u0 : List (List Str)) m1 ∧ e 12 = .int .i64 (j0) ∧ e 13 = .int .i64 (o0) ∧ e 14 = .int .i64 (n0) ∧ e 40 = .int .i64 ((min64 x2 ((((x0).Design).Rows).length : Int))) ∧ e 41 = .int .i64 (j0) ∧ e 47 = .int .i64 (((((x0).Harness).Warps).length : Int)) ∧ e 48 = .int .i64 (o0)) (fun Q' hQ => ?_) (fun eC uC hR => ?_)
        ·replace h := hx
         clear hx
         refine E_seq (E_region (EL_pur (v := m1) (P_move c4) .plain rfl ?_))
         refine EL_pur (v := .int .i64 ((u0).length : Int)) (P_len Try.underlying78 rfl z2) .plain rfl ?_
         refine EL_pur (v := .int .i64 (0)) (P_move rfl) .plain rfl ?_
         refine EL_nil (thn_n (E_block ?_))
         refine E_lp h (fun (s : Int × Int) e w => ∃ (g : Gh) , Fr gI wI g w ∧ e 3 = p1 ∧ PT g.m w (x0 : FaultLoom) p1 ∧ e 6 = .int .i64 (d2) ∧ e 7 = .int .i64 (i2) ∧ e 8 = .int .i64 (j1) ∧ e 11 = m1 ∧ RV g.m w (u0 : List (List Str)) m1 ∧ e 12 = .int .i64 (j0) ∧ e 13 = .int .i64 (o0) ∧ e 14 = .int .i64 (s.1) ∧ e 40 = .int .i64 ((min64 x2 ((((x0).Design).Rows).length : Int))) ∧ e 41 = .int .i64 (j0) ∧ e 47 = .int .i64 (((((x0).Harness).Warps).length : Int)) ∧ e 48 = .int .i64 (o0) ∧ e 51 = m1 ∧ RV g.m w (u0 : List (List Str)) m1 ∧ e 52 = .int .i64 (((u0).length : Int)) ∧ e 53 = .int .i64 (s.2)) ⟨n9, hfr, r6, s6, t6, u6, v6, c4, z2, t7, rfl, rfl, q5, r5, t5, d4, rfl, z2, rfl, rfl⟩ (fun X374 e9 zA => ?_)
         rintro ⟨z1, i1⟩ iC vC ⟨i5, hfr, j5, l5, m5, n5, o5, e4, i4, d3, e3, j4, m4, n4, o4, p4, q4, i3, r4, j3⟩ h
         refine E_seq (E_region (EL_pur (v := .bool ((decide (i1 < ((u0).length : Int))))) (P_int j3 r4 rfl) .plain rfl ?_))
         refine EL_nil (thn_n (E_seq ?_))
         rcases csome h with ⟨j6, h⟩ | ⟨j6, h⟩
         ·refine E_cond_true (Eq.trans (show ev _ _ = .bool ((decide (i1 < ((u0).length : Int)))) from rfl) (congrArg Value.bool j6)) ?_
          refine E_skip (thn_n ?_)
          obtain ⟨q2, hx, h⟩ := bsome h
          refine E_join (fun e w => ∃ (g : Gh) , Fr gI wI g w ∧ e 3 = p1 ∧ PT g.m w (x0 : FaultLoom) p1 ∧ e 6 = .int .i64 (d2) ∧ e 7 = .int .i64 (i2) ∧ e 8 = .int .i64 (j1) ∧ e 11 = m1 ∧ RV g.m w (u0 : List (List Str)) m1 ∧ e 12 = .int .i64 (j0) ∧ e 13 = .int .i64 (o0) ∧ e 14 = .int .i64 (q2) ∧ e 40 = .int .i64 ((min64 x2 ((((x0).Design).Rows).length : Int))) ∧ e 41 = .int .i64 (j0) ∧ e 47 = .int .i64 (((((x0).Harness).Warps).length : Int)) ∧ e 48 = .int .i64 (o0) ∧ e 51 = m1 ∧ RV g.m w (u0 : List (List Str)) m1 ∧ e 52 = .int .i64 (((u0).length : Int)) ∧ e 53 = .int .i64 (i1)) (fun Q' hQ => ?_) (fun jC xC hR => ?_)
          ·replace h := hx
           clear hx
           refine E_block ?_
           refine E_seq (E_region ?_)
           obtain ⟨g9, o7, h⟩ := bsome h
           refine EL_pur (v := ePtr m1 i1 1) (P_indexAddr (α := List Str) Try.underlying78 Try.sizeOf36 q4 i3 j3 o7) .plain rfl ?_
           have oB := PT_idx i3 o7
           refine EL_do .plain rfl (D_load (g := i5) Try.isAgg36 Try.sizeOf36 rfl oB fun d7 o9 => ?_)
           refine EL_pur (v := d7) (P_assign rfl) .plain rfl ?_
           refine EL_nil (thn_n (E_seq (E_region (EL_pur (v := d7) (P_move rfl) .plain rfl ?_))))
           refine EL_pur (v := .int .i64 (j0)) (P_move d3) .plain rfl ?_
           obtain ⟨i9, p7, h⟩ := bsome h
           refine EL_pur (v := ePtr d7 j0 1) (P_indexAddr (α := Str) Try.underlying36 Try.sizeOf9 rfl o9 rfl p7) .plain rfl ?_
           have pB := PT_idx o9 p7
           refine EL_do .plain rfl (D_load (g := i5) Try.isAgg9 Try.sizeOf9 rfl pB fun yC qB => ?_)
           obtain rfl := RV_str.1 qB
           refine EL_pur (v := .int .i64 (o0)) (P_move e3) .plain rfl ?_
           obtain ⟨u3, aB, h⟩ := bsome h
           refine EL_pur (v := .int .u8 (UInt8.toNat (u3))) (P_indexS Try.underlying9 rfl rfl aB) .plain rfl ?_
           refine EL_pur (v := .bool ((u3 == (120 : UInt8)))) (P_u8 rfl rfl rfl) .plain rfl ?_
           refine EL_nil (thn_n ?_)
           rcases csome h with ⟨l6, h⟩ | ⟨l6, h⟩
           ·refine E_cond_true (Eq.trans (show ev _ _ = .bool ((u3 == (120 : UInt8))) from rfl) (congrArg Value.bool l6)) ?_
            refine E_region (EL_pur (v := .int .i64 (z1)) (P_move j4) .plain rfl ?_)
            refine EL_pur (v := .int .i64 ((w64 (z1 + (1 : Int))))) (P_int rfl rfl rfl) .plain rfl ?_
            refine EL_pur (v := .int .i64 ((w64 (z1 + (1 : Int))))) (P_assign rfl) .plain rfl ?_
            refine EL_nil (blk_n ?_)
            obtain rfl := Option.some.inj h
            exact hQ _ _ ⟨i5, hfr, j5, l5, m5, n5, o5, e4, i4, d3, e3, rfl, m4, n4, o4, p4, q4, i3, r4, j3⟩
           ·refine E_cond_false (Eq.trans (show ev _ _ = .bool ((u3 == (120 : UInt8))) from rfl) (congrArg Value.bool l6)) ?_
            refine E_skip (blk_n ?_)
            obtain rfl := Option.some.inj h
            exact hQ _ _ ⟨i5, hfr, j5, l5, m5, n5, o5, e4, i4, d3, e3, j4, m4, n4, o4, p4, q4, i3, r4, j3⟩
          ·clear hx
           obtain ⟨rB, hfr, p9, q9, r9, s9, t9, u7, x7, y7, z7, a8, b8, c8, d8, e8, i8, j8, k8, l8⟩ := hR
           refine E_region (EL_pur (v := .int .i64 ((w64 (i1 + (1 : Int))))) (P_int l8 rfl rfl) .plain rfl ?_)
           refine EL_pur (v := .int .i64 ((w64 (i1 + (1 : Int))))) (P_move rfl) .plain rfl ?_
           exact EL_nil (thn_n (zA (q2, (w64 (i1 + (1 : Int)))) _ _ ⟨rB, hfr, p9, q9, r9, s9, t9, u7, x7, y7, z7, a8, b8, c8, d8, e8, i8, j8, k8, rfl⟩ h))
         ·refine E_cond_false (Eq.trans (show ev _ _ = .bool ((decide (i1 < ((u0).length : Int)))) from rfl) (congrArg Value.bool j6)) ?_
          refine E_exit ?_
          refine thn_e ?_
          refine thn_e ?_
          refine blk_hit ?_
          obtain rfl := Option.some.inj h
          exact hQ _ _ ⟨i5, hfr, j5, l5, m5, n5, o5, e4, i4, d3, e3, j4, m4, n4, o4, p4⟩
        ·clear hx
         obtain ⟨u9, hfr, x6, y6, v9, x9, z6, s4, u4, x4, m8, u5, x5, y5, z5, a6⟩ := hR
         refine E_seq (E_region (EL_pur (v := .int .i64 (n0)) (P_move u5) .plain rfl ?_))
         refine EL_pur (v := m1) (P_move s4) .plain rfl ?_
         refine EL_pur (v := .int .i64 ((u0).length : Int)) (P_len Try.underlying78 rfl u4) .plain rfl ?_
         refine EL_pur (v := .int .i64 (n0)) (P_move u5) .plain rfl ?_
         refine EL_pur (v := .int .i64 ((w64 (((u0).length : Int) - n0)))) (P_int rfl rfl rfl) .plain rfl ?_
         refine EL_pur (v := .int .i64 (max64 n0 (w64 (((u0).length : Int) - n0)))) (P_max rfl rfl) .plain rfl ?_
         refine EL_pur (v := .int .i64 (max64 n0 (w64 (((u0).length : Int) - n0)))) (P_assign rfl) .plain rfl ?_
         refine EL_nil (thn_n (E_seq (E_region (EL_pur (v := .int .i64 (max64 n0 (w64 (((u0).length : Int) - n0)))) (P_move rfl) .plain rfl ?_))))
         refine EL_pur (v := .int .i64 (j1)) (P_move z6) .plain rfl ?_
         refine EL_pur (v := .bool ((decide ((max64 n0 (w64 (((u0).length : Int) - n0))) < j1)))) (P_int rfl rfl rfl) .plain rfl ?_
         refine EL_nil (thn_n ?_)
         rcases csome h with ⟨m6, h⟩ | ⟨m6, h⟩
         ·refine E_cond_true (Eq.trans (show ev _ _ = .bool ((decide ((max64 n0 (w64 (((u0).length : Int) - n0))) < j1))) from rfl) (congrArg Value.bool m6)) ?_
          refine E_region (EL_pur (v := .int .i64 (j0)) (P_move x4) .plain rfl ?_)
          refine EL_pur (v := .int .i64 (o0)) (P_move m8) .plain rfl ?_
          refine EL_pur (v := .int .i64 (max64 n0 (w64 (((u0).length : Int) - n0)))) (P_move rfl) .plain rfl ?_
          refine EL_pur (v := .int .i64 (j0)) (P_assign rfl) .plain rfl ?_
          refine EL_pur (v := .int .i64 (o0)) (P_assign rfl) .plain rfl ?_
          refine EL_pur (v := .int .i64 (max64 n0 (w64 (((u0).length : Int) - n0)))) (P_assign rfl) .plain rfl ?_
          refine EL_nil (blk_n ?_)
          obtain ⟨rfl, rfl, rfl⟩ := pairs3 h
          exact hQ _ _ ⟨u9, hfr, x6, y6, rfl, rfl, rfl, s4, u4, x4, x5, y5, z5, a6⟩
         ·refine E_cond_false (Eq.trans (show ev _ _ = .bool ((decide ((max64 n0 (w64 (((u0).length : Int) - n0))) < j1))) from rfl) (congrArg Value.bool m6)) ?_
          refine E_skip (blk_n ?_)
          obtain ⟨rfl, rfl, rfl⟩ := pairs3 h
          exact hQ _ _ ⟨u9, hfr, x6, y6, v9, x9, z6, s4, u4, x4, x5, y5, z5, a6⟩
       ·clear hx
        obtain ⟨sB, hfr, z9, aA, bA, cA, dA, n8, o8, p8, q8, r8, t8, x8⟩ := hR
        refine E_region (EL_pur (v := .int .i64 ((w64 (o0 + (1 : Int))))) (P_int x8 rfl rfl) .plain rfl ?_)
        refine EL_pur (v := .int .i64 ((w64 (o0 + (1 : Int))))) (P_move rfl) .plain rfl ?_
        exact EL_nil (thn_n (yA (m3, o3, p3, (w64 (o0 + (1 : Int)))) _ _ ⟨sB, hfr, z9, aA, bA, cA, dA, n8, o8, p8, q8, r8, t8, rfl⟩ h))
      ·refine E_cond_false (Eq.trans (show ev _ _ = .bool ((decide (o0 < ((((x0).Harness).Warps).length : Int)))) from rfl) (congrArg Value.bool i6)) ?_
       refine E_exit ?_
       refine thn_e ?_
       refine thn_e ?_
       refine blk_hit ?_
       refine blk_n ?_
       obtain ⟨rfl, rfl, rfl⟩ := pairs3 h
       exact hQ _ _ ⟨n9, hfr, r6, s6, t6, u6, v6, c4, z2, q5, r5⟩
     ·clear hx
      obtain ⟨tB, hfr, eA, gA, iA, jA, kA, y8, z8, a9, b9⟩ := hR
      refine E_region (EL_pur (v := .int .i64 ((w64 (j0 + (1 : Int))))) (P_int b9 rfl rfl) .plain rfl ?_)
      refine EL_pur (v := .int .i64 ((w64 (j0 + (1 : Int))))) (P_move rfl) .plain rfl ?_
      exact EL_nil (thn_n (xA (q3, r3, s3, (w64 (j0 + (1 : Int)))) _ _ ⟨tB, hfr, eA, gA, iA, jA, kA, y8, z8, a9, rfl⟩ h))
    ·refine E_cond_false (Eq.trans (show ev _ _ = .bool ((decide (j0 < (min64 x2 ((((x0).Design).Rows).length : Int))))) from rfl) (congrArg Value.bool e6)) ?_
     refine E_exit ?_
     refine thn_e ?_
     refine thn_e ?_
     refine blk_hit ?_
     obtain ⟨rfl, rfl, rfl⟩ := pairs3 h
     exact hQ _ _ ⟨c7, hfr, o6, p6, q6⟩
   ·clear hx
    obtain ⟨zC, hfr, lA, mA, nA⟩ := hR
    refine E_seq (E_region (EL_pur (v := .int .i64 (j2)) (P_move lA) .plain rfl ?_))
    refine EL_pur (v := .int .i64 (m2)) (P_move mA) .plain rfl ?_
    refine EL_pur (v := .int .i64 (p2)) (P_move nA) .plain rfl ?_
    refine EL_pur (v := .int .i64 (j2)) (P_assign rfl) .plain rfl ?_
    refine EL_pur (v := .int .i64 (m2)) (P_assign rfl) .plain rfl ?_
    refine EL_pur (v := .int .i64 (p2)) (P_assign rfl) .plain rfl ?_
    refine EL_pur (v := .int .i64 (0)) (P_assign rfl) .plain rfl ?_
    refine EL_nil (thn_n (E_ret ?_))
    obtain rfl := Option.some.inj h
    exact end4 rfl rfl (show _ = .int .i64 (j2) from rfl) (show _ = .int .i64 (m2) from rfl) (show _ = .int .i64 (p2) from rfl) (show _ = .int .i64 (0) from rfl) ⟨_, hfr, _, _, _, _, rfl, rfl, rfl, rfl, rfl⟩
end Go.Proofs.Ytpiaipiehjcflaa
