import Derived.Test.YtkmbkaoolacofaaCode1
set_option maxRecDepth 8000
set_option maxHeartbeats 4000000
namespace Go.Proofs.Ytkmbkaoolacofaa
open Go.RowKit
def f82 (x0 : List Int) (x1 : Int) (x2 : Int) (x3 : Int) (x4 : Int → Int → Option Int) : Option ((List Int)) :=
 Option.bind (α := (List Int) × Int) (
  lp (σ := (List Int) × Int × Int) (fun c7 (u3, o0, u0) =>
   jn (σ := Unit) (fun _ =>
    bif (decide (o0 > u0)) then
     (f98 u3 ((w64 (x2 - o0))) x2 u0 x4).bind fun d7 =>
     c7 (d7, (w64 (o0 - u0)), u0)
    else
     (f98 u3 ((w64 (x2 - o0))) ((w64 ((w64 (x2 + u0)) - o0))) o0 x4).bind fun e7 =>
     c7 (e7, o0, (w64 (u0 - o0)))
    ) fun o7 =>
   bif (o0 != u0) then
    o7 ()
   else
    some (u3, o0)
   ) big (x0, (w64 (x2 - x1)), (w64 (x3 - x2)))
  ) fun (l5, i3) =>
 (f98 l5 ((w64 (x2 - i3))) x2 i3 x4).bind fun u7 =>
 some (u7)
theorem en82 : Enters Try.prog 82 := enters_of Try.func82 (by kernel_rfl) rfl
theorem wk82 {iI : Nat} {gI : Gh} {wI : World} {x0 : List Int} {x1 : Int} {x2 : Int} {x3 : Int} {x4 : Int → Int → Option Int} {up0 : Value} (mp0 : OM iI gI wI 3 x0 up0) {up4 : Value} (rp4 : FnV2 Try.prog x4 up4 gI wI) {r : (List Int)} (h : f82 x0 x1 x2 x3 x4 = some r) : FnM Try.prog 82 #[up0, .int .i64 (x1), .int .i64 (x2), .int .i64 (x3), up4] iI gI wI (fun g w v => v = .tuple #[] ∧ OM iI g w 3 r up0) := by
 unfold f82 at h
 refine fnM_of_E Try.func82 rfl (Nat.le_of_ble_eq_true rfl) fun g0 hm hfr => ?_
 have i7 := mp0
 replace mp0 := mp0.enter
 rw [← hm] at mp0
 replace hm : g0.m = gI.m := by rw [hm]
 obtain ⟨ff4, fa4, fc4, rfl, fen4, fcl4⟩ := rp4
 show E _ 58 none _ _ _ _ _
 refine E_seq (E_region (EL_mw (.int .i64 (x2)) rfl rfl ?_))
 refine EL_mw (.int .i64 (x1)) rfl rfl ?_
 refine EL_in (.int .i64 ((w64 (x2 - x1)))) rfl rfl rfl rfl ?_
 refine EL_at (.int .i64 ((w64 (x2 - x1)))) rfl rfl ?_
 refine EL_nil (thn_n (E_seq (E_region (EL_mw (.int .i64 (x3)) rfl rfl ?_))))
 refine EL_mw (.int .i64 (x2)) rfl rfl ?_
 refine EL_in (.int .i64 ((w64 (x3 - x2)))) rfl rfl rfl rfl ?_
 refine EL_at (.int .i64 ((w64 (x3 - x2)))) rfl rfl ?_
 refine EL_nil (thn_n ?_)
 obtain ⟨⟨l5, i3⟩, hx, h⟩ := bsome h
 refine E_join (fun e w => ∃ (g : Gh) , FrM iI gI wI g w ∧ e 0 = up0 ∧ OM 1 g w 3 (l5 : List Int) up0 ∧ e 2 = .int .i64 (x2) ∧ e 4 = (.func (.func ff4) fa4 fc4) ∧ e 10 = .int .i64 (i3)) (fun Q' hQ => ?_) (fun q8 a9 hR => ?_)
 ·replace h := hx
  clear hx
  refine E_block ?_
  refine E_lp h (fun (s : (List Int) × Int × Int) e w => ∃ (g : Gh) , FrM iI gI wI g w ∧ e 0 = up0 ∧ OM 1 g w 3 (s.1 : List Int) up0 ∧ e 2 = .int .i64 (x2) ∧ e 4 = (.func (.func ff4) fa4 fc4) ∧ e 10 = .int .i64 (s.2.1) ∧ e 11 = .int .i64 (s.2.2)) ⟨g0, hfr, rfl, mp0, rfl, rfl, rfl, rfl⟩ (fun X12 c7 g7 => ?_)
  rintro ⟨u3, o0, u0⟩ r8 d9 ⟨v7, hfr, j6, v6, x6, y6, i5, q5⟩ h
  refine E_joinC h (fun (s : Unit) e w => ∃ (g : Gh) , FrM iI gI wI g w ∧ e 0 = up0 ∧ OM 1 g w 3 (u3 : List Int) up0 ∧ e 2 = .int .i64 (x2) ∧ e 4 = (.func (.func ff4) fa4 fc4) ∧ e 10 = .int .i64 (o0) ∧ e 11 = .int .i64 (u0)) (fun X15 o7 g8 h => ?_) ?_
  ·refine E_seq (E_region (EL_mv i5 rfl ?_))
   refine EL_mv q5 rfl ?_
   refine EL_in (.bool ((o0 != u0))) rfl rfl rfl rfl ?_
   refine EL_nil (thn_n ?_)
   rcases csome h with ⟨x5, h⟩ | ⟨x5, h⟩
   ·refine E_ct x5 rfl ?_
    exact E_skip (thn_n (g8 () _ _ ⟨v7, hfr, j6, v6, x6, y6, i5, q5⟩ h))
   ·refine E_cf x5 rfl ?_
    refine E_exit ?_
    refine thn_e ?_
    refine thn_e ?_
    refine blk_hit ?_
    obtain ⟨rfl, rfl⟩ := pairs2 h
    exact hQ _ _ ⟨v7, hfr, j6, v6, x6, y6, i5⟩
  ·rintro _ t8 e9 ⟨c8, hfr, z3, a7, o3, z4, j1, j3⟩ h
   refine E_block ?_
   refine E_seq (E_region (EL_mv j1 rfl ?_))
   refine EL_mv j3 rfl ?_
   refine EL_in (.bool ((decide (o0 > u0)))) rfl rfl rfl rfl ?_
   refine EL_nil (thn_n ?_)
   rcases csome h with ⟨i6, h⟩ | ⟨i6, h⟩
   ·refine E_ct i6 rfl ?_
    refine E_seq (E_region (EL_mv z3 rfl ?_))
    refine EL_mv o3 rfl ?_
    refine EL_mv j1 rfl ?_
    refine EL_in (.int .i64 ((w64 (x2 - o0)))) rfl rfl rfl rfl ?_
    refine EL_mv o3 rfl ?_
    refine EL_mv j3 rfl ?_
    refine EL_mv z4 rfl ?_
    obtain ⟨d7, i8, h⟩ := bsome h
    refine EL_do .plain rfl (D_callM (g := c8) (i := 1) (vs := [up0, .int .i64 ((w64 (x2 - o0))), .int .i64 (x2), .int .i64 (u0), (.func (.func ff4) fa4 fc4)]) en98 (.cons rfl (.cons rfl (.cons rfl (.cons rfl (.cons rfl .nil))))) (wk98 a7 (FnV2.ch ⟨_, _, _, rfl, fen4, fcl4⟩ hfr.ch) i8) fun m8 v8 i9 hs hr => ?_)
    obtain ⟨hrv, b19⟩ := hr
    have hfr := hfr.stp hs
    subst hrv
    refine EL_nil (thn_n (E_region (EL_mv j1 rfl ?_)))
    refine EL_mv j3 rfl ?_
    refine EL_in (.int .i64 ((w64 (o0 - u0)))) rfl rfl rfl rfl ?_
    refine EL_at (.int .i64 ((w64 (o0 - u0)))) rfl rfl ?_
    exact EL_nil (blk_n (thn_n (g7 (d7, (w64 (o0 - u0)), u0) _ _ ⟨m8, hfr, z3, b19, o3, z4, rfl, j3⟩ h)))
   ·refine E_cf i6 rfl ?_
    refine E_seq (E_region (EL_mv z3 rfl ?_))
    refine EL_mv o3 rfl ?_
    refine EL_mv j1 rfl ?_
    refine EL_in (.int .i64 ((w64 (x2 - o0)))) rfl rfl rfl rfl ?_
    refine EL_mv o3 rfl ?_
    refine EL_mv j3 rfl ?_
    refine EL_in (.int .i64 ((w64 (x2 + u0)))) rfl rfl rfl rfl ?_
    refine EL_mv j1 rfl ?_
    refine EL_in (.int .i64 ((w64 ((w64 (x2 + u0)) - o0)))) rfl rfl rfl rfl ?_
    refine EL_mv j1 rfl ?_
    refine EL_mv z4 rfl ?_
    obtain ⟨e7, k8, h⟩ := bsome h
    refine EL_do .plain rfl (D_callM (g := c8) (i := 1) (vs := [up0, .int .i64 ((w64 (x2 - o0))), .int .i64 ((w64 ((w64 (x2 + u0)) - o0))), .int .i64 (o0), (.func (.func ff4) fa4 fc4)]) en98 (.cons rfl (.cons rfl (.cons rfl (.cons rfl (.cons rfl .nil))))) (wk98 a7 (FnV2.ch ⟨_, _, _, rfl, fen4, fcl4⟩ hfr.ch) k8) fun n8 x8 k9 hs hr => ?_)
    obtain ⟨hrv, b21⟩ := hr
    have hfr := hfr.stp hs
    subst hrv
    refine EL_nil (thn_n (E_region (EL_mv j3 rfl ?_)))
    refine EL_mv j1 rfl ?_
    refine EL_in (.int .i64 ((w64 (u0 - o0)))) rfl rfl rfl rfl ?_
    refine EL_at (.int .i64 ((w64 (u0 - o0)))) rfl rfl ?_
    exact EL_nil (blk_n (thn_n (g7 (e7, o0, (w64 (u0 - o0))) _ _ ⟨n8, hfr, z3, b21, o3, z4, j1, rfl⟩ h)))
 ·clear hx
  obtain ⟨o8, hfr, j7, m7, b7, n7, t5⟩ := hR
  refine E_region (EL_mv j7 rfl ?_)
  refine EL_mv b7 rfl ?_
  refine EL_mv t5 rfl ?_
  refine EL_in (.int .i64 ((w64 (x2 - i3)))) rfl rfl rfl rfl ?_
  refine EL_mv b7 rfl ?_
  refine EL_mv t5 rfl ?_
  refine EL_mv n7 rfl ?_
  obtain ⟨u7, l8, h⟩ := bsome h
  refine EL_do .plain rfl (D_callM (g := o8) (i := 1) (vs := [up0, .int .i64 ((w64 (x2 - i3))), .int .i64 (x2), .int .i64 (i3), (.func (.func ff4) fa4 fc4)]) en98 (.cons rfl (.cons rfl (.cons rfl (.cons rfl (.cons rfl .nil))))) (wk98 m7 (FnV2.ch ⟨_, _, _, rfl, fen4, fcl4⟩ hfr.ch) l8) fun l9 y8 n9 hs hr => ?_)
  obtain ⟨hrv, b24⟩ := hr
  have hfr := hfr.stp hs
  subst hrv
  refine EL_nil ?_
  obtain rfl := sinj h
  exact end0n rfl rfl ⟨_, hfr, rfl, i7.back b24⟩
def f83 (x0 : List Int) : Option (Bool) :=
 jn (σ := Unit) (fun _ =>
  some (true)
  ) fun k53 =>
 lp (σ := Int) (fun k54 o0 =>
  jn (σ := Unit) (fun _ =>
   jn (σ := Unit) (fun _ =>
    k54 ((w64 (o0 - (1 : Int))))
    ) fun v6 =>
   (idx x0 o0).bind fun y84 =>
   (idx x0 (w64 (o0 - (1 : Int)))).bind fun u3 =>
   (f91 y84 u3).bind fun z3 =>
   bif z3 then
    some (false)
   else
    v6 ()
   ) fun k57 =>
  bif (decide (o0 > (0 : Int))) then
   k57 ()
  else
   k53 ()
  ) big ((w64 (((x0).length : Int) - (1 : Int))))
def f85 (x0 : List Int) (x1 : Int) (x2 : Int) : Option ((List Int)) :=
 lp (σ := (List Int) × Int) (fun k1 (x6, j3) =>
  jn (σ := Unit) (fun _ =>
   Option.bind (α := (List Int)) (
    lp (σ := (List Int) × Int) (fun k8 (j1, o0) =>
     jn (σ := Unit) (fun _ =>
      Option.bind (α := (List Int)) (
       (idx j1 (w64 (o0 - (1 : Int)))).bind fun i6 =>
       (idx j1 o0).bind fun y6 =>
       (idx j1 o0).bind fun rA =>
       (idx ((List.set j1 (Int.toNat o0) i6)) (w64 (o0 - (1 : Int)))).bind fun uA =>
       some ((List.set ((List.set j1 (Int.toNat o0) i6)) (Int.toNat (w64 (o0 - (1 : Int)))) y6))
       ) fun l5 =>
      k8 (l5, (w64 (o0 - (1 : Int))))
      ) fun l8 =>
     Option.bind (α := Bool) (
      bif (decide (o0 > x1)) then
       (idx j1 o0).bind fun a7 =>
       (idx j1 (w64 (o0 - (1 : Int)))).bind fun b7 =>
       (f91 a7 b7).bind fun j6 =>
       some (j6)
      else
       some (false)
      ) fun u3 =>
     bif u3 then
      l8 ()
     else
      some (j1)
     ) big (x6, j3)
    ) fun q5 =>
   k1 (q5, (w64 (j3 + (1 : Int))))
   ) fun k4 =>
  bif (decide (j3 < x2)) then
   k4 ()
  else
   some (x6)
  ) big (x0, (w64 (x1 + (1 : Int))))
def f86 (x0 : List Int) (x1 : Int) (x2 : Int) : Option ((List Int)) :=
 Option.bind (α := (List Int)) (
  (quo64 (w64 ((w64 (x2 - x1)) - (1 : Int))) (2 : Int)).bind fun j6 =>
  lp (σ := (List Int) × Int) (fun u9 (z3, u0) =>
   jn (σ := Unit) (fun _ =>
    Option.bind (α := (List Int)) (
     (f99 z3 u0 ((w64 (x2 - x1))) x1).bind fun y23 =>
     some (y23)
     ) fun z4 =>
    u9 (z4, (w64 (u0 - (1 : Int))))
    ) fun y9 =>
   bif (decide (u0 ≥ (0 : Int))) then
    y9 ()
   else
    some (z3)
   ) big (x0, j6)
  ) fun l5 =>
 lp (σ := (List Int) × Int) (fun z9 (j1, o0) =>
  jn (σ := Unit) (fun _ =>
   Option.bind (α := (List Int)) (
    (idx j1 (w64 (x1 + o0))).bind fun q5 =>
    (idx j1 x1).bind fun v6 =>
    (idx j1 x1).bind fun zA =>
    (idx ((List.set j1 (Int.toNat x1) q5)) (w64 (x1 + o0))).bind fun aB =>
    (f99 ((List.set ((List.set j1 (Int.toNat x1) q5)) (Int.toNat (w64 (x1 + o0))) v6)) ((0 : Int)) o0 x1).bind fun bA =>
    some (bA)
    ) fun i5 =>
   z9 (i5, (w64 (o0 - (1 : Int))))
   ) fun gA =>
  bif (decide (o0 ≥ (0 : Int))) then
   gA ()
  else
   some (j1)
  ) big (l5, (w64 ((w64 (x2 - x1)) - (1 : Int))))
def f90 (x0 : List Int) (x1 : Int) (x2 : Int) : Option (Bool × (List Int)) :=
 jn (σ := (List Int)) (fun rA =>
  some (false, rA)
  ) fun kE =>
 lp (σ := (List Int) × Int × Int) (fun lE (o3, o8, i3) =>
  jn (σ := Unit) (fun _ =>
   jn (σ := (List Int) × Int) (fun (q8, r8) =>
    lE (q8, r8, (w64 (i3 + (1 : Int))))
    ) fun e9 =>
   Option.bind (α := Int) (
    lp (σ := Int) (fun mE j3 =>
     jn (σ := Unit) (fun _ =>
      mE ((w64 (j3 + (1 : Int))))
      ) fun nE =>
     Option.bind (α := Bool) (
      bif (decide (j3 < x2)) then
       (idx o3 j3).bind fun i9 =>
       (idx o3 (w64 (j3 - (1 : Int)))).bind fun k9 =>
       (f91 i9 k9).bind fun g7 =>
       some ((!g7))
      else
       some (false)
      ) fun y6 =>
     bif y6 then
      nE ()
     else
      some (j3)
     ) big (o8)
    ) fun o0 =>
   jn (σ := Unit) (fun _ =>
    jn (σ := Unit) (fun _ =>
     (idx o3 (w64 (o0 - (1 : Int)))).bind fun i7 =>
     (idx o3 o0).bind fun i8 =>
     (idx o3 o0).bind fun sJ =>
     (idx ((List.set o3 (Int.toNat o0) i7)) (w64 (o0 - (1 : Int)))).bind fun tJ =>
     Option.bind (α := (List Int)) (
      bif (decide ((w64 (o0 - x1)) ≥ (2 : Int))) then
       lp (σ := (List Int) × Int) (fun oE (z3, j1) =>
        jn (σ := Unit) (fun _ =>
         jn (σ := (List Int)) (fun t8 =>
          oE (t8, (w64 (j1 - (1 : Int))))
          ) fun rE =>
         jn (σ := Unit) (fun _ =>
          (idx z3 (w64 (j1 - (1 : Int)))).bind fun j7 =>
          (idx z3 j1).bind fun k8 =>
          (idx z3 j1).bind fun uJ =>
          (idx ((List.set z3 (Int.toNat j1) j7)) (w64 (j1 - (1 : Int)))).bind fun vJ =>
          rE ((List.set ((List.set z3 (Int.toNat j1) j7)) (Int.toNat (w64 (j1 - (1 : Int)))) k8))
          ) fun sE =>
         (idx z3 j1).bind fun l9 =>
         (idx z3 (w64 (j1 - (1 : Int)))).bind fun n9 =>
         (f91 l9 n9).bind fun l8 =>
         bif (!l8) then
          some (z3)
         else
          sE ()
         ) fun tE =>
        bif (decide (j1 ≥ (1 : Int))) then
         tE ()
        else
         some (z3)
        ) big ((List.set ((List.set o3 (Int.toNat o0) i7)) (Int.toNat (w64 (o0 - (1 : Int)))) i8), (w64 (o0 - (1 : Int))))
      else
       some ((List.set ((List.set o3 (Int.toNat o0) i7)) (Int.toNat (w64 (o0 - (1 : Int)))) i8))
      ) fun b7 =>
     bif (decide ((w64 (x2 - o0)) ≥ (2 : Int))) then
      lp (σ := (List Int) × Int) (fun uE (u3, u0) =>
       jn (σ := Unit) (fun _ =>
        jn (σ := (List Int)) (fun v8 =>
         uE (v8, (w64 (u0 + (1 : Int))))
         ) fun vE =>
        jn (σ := Unit) (fun _ =>
         (idx u3 (w64 (u0 - (1 : Int)))).bind fun m7 =>
         (idx u3 u0).bind fun m8 =>
         (idx u3 u0).bind fun xJ =>
         (idx ((List.set u3 (Int.toNat u0) m7)) (w64 (u0 - (1 : Int)))).bind fun yJ =>
         vE ((List.set ((List.set u3 (Int.toNat u0) m7)) (Int.toNat (w64 (u0 - (1 : Int)))) m8))
         ) fun xE =>
        (idx u3 u0).bind fun o9 =>
        (idx u3 (w64 (u0 - (1 : Int)))).bind fun t9 =>
        (f91 o9 t9).bind fun n8 =>
        bif (!n8) then
         e9 (u3, o0)
        else
         xE ()
        ) fun yE =>
       bif (decide (u0 < x2)) then
        yE ()
       else
        e9 (u3, o0)
       ) big (b7, (w64 (o0 + (1 : Int))))
     else
      e9 (b7, o0)
     ) fun zE =>
    bif (decide ((w64 (x2 - x1)) < (50 : Int))) then
     some (false, o3)
    else
     zE ()
    ) fun cF =>
   bif (o0 == x2) then
    some (true, o3)
   else
    cF ()
   ) fun dF =>
  bif (decide (i3 < (5 : Int))) then
   dF ()
  else
   kE (o3)
  ) big (x0, (w64 (x1 + (1 : Int))), (0 : Int))
def f21 (x0 : Int) (x1 : Int) (x2 : List Int) : Option (Bool) :=
 (f34 x2 ((fun a0 => f42 a0 x0 x1))).bind fun y4 =>
 some ((!y4))
theorem en21 : Enters Try.prog 21 := enters_of Try.func21 (by kernel_rfl) rfl
theorem wk21 {gI : Gh} {wI : World} {x0 : Int} {x1 : Int} {x2 : List Int} {up2 : Value} (rp2 : RV gI.m wI x2 up2) {r : Bool} (h : f21 x0 x1 x2 = some r) : Fn Try.prog 21 #[.int .i64 (x0), .int .i64 (x1), up2] gI wI (fun _ _ v => v = .bool (r)) := by
 unfold f21 at h
 refine fn_of_E Try.func21 rfl (Nat.le_of_ble_eq_true rfl) fun g0 hm hfr => ?_
 have rp2 : RV g0.m wI x2 up2 := hm ▸ rp2
 show E _ 11 none _ _ _ _ _
 refine E_seq (E_region (EL_do .plain rfl (D_box (g := g0) rfl (RV_int.2 rfl) fun g1 w1 p1 hs q1 => ?_)))
 have hfr := hfr.ext hs
 have rp2 := rp2.ext hs
 refine EL_do .plain rfl (D_box (g := g1) rfl (RV_int.2 rfl) fun g2 w2 p2 hs q2 => ?_)
 have hfr := hfr.ext hs
 have rp2 := rp2.ext hs
 have q1 := q1.ext hs
 refine EL_at (.bool false) rfl rfl ?_
 refine EL_nil (thn_n (E_seq (E_region (EL_mw up2 rfl rfl ?_))))
 refine EL_p ((.func (.func 42) #[] #[p1, p2])) (P_makeFunc (capf_0_2 (show ev _ _ = p1 from rfl) (show ev _ _ = p2 from rfl))) rfl ?_
 obtain ⟨y4, o0, h⟩ := bsome h
 refine EL_do .plain rfl (D_call (g := g2) (vs := [up2, (.func (.func 42) #[] #[p1, p2])]) en34 (.cons rfl (.cons rfl .nil)) (wk34 rp2 ⟨42, #[], #[p1, p2], rfl, en42, fun g' w' hch a0 b0 r hu0 hr => by obtain rfl := RV_int.1 hu0; exact Fn.mono (wk42  (q1.ch hch) (q2.ch hch) hr) fun _ _ _ h => RV_bool.2 h⟩ o0) fun g3 w3_ v3 hs hr => ?_)
 have hfr := hfr.ext hs
 subst hr
 refine EL_p (.bool (!y4)) (P_not rfl) rfl ?_
 refine EL_at (.bool (!y4)) rfl rfl ?_
 refine EL_nil (thn_n (E_ret ?_))
 obtain rfl := sinj h
 exact end1 rfl rfl (show _ = .bool (!y4) from rfl) ⟨_, hfr, rfl⟩
def f23 (x0 : Int) (x1 : Int) (z0 : Int) (z1 : List Int) (z2 : Int) : Option (Int) :=
 (idx z1 x1).bind fun y3 =>
 (rem64 (w64 (z0 * y3)) z2).bind fun y7 =>
 (idx z1 x0).bind fun u0 =>
 (rem64 (w64 (z0 * u0)) z2).bind fun j1 =>
 (f24 y7 j1).bind fun o0 =>
 some (o0)
theorem en23 : Enters Try.prog 23 := enters_of Try.func23 (by kernel_rfl) rfl
theorem wk23 {gI : Gh} {wI : World} {x0 : Int} {x1 : Int} {z0 : Int} {z1 : List Int} {z2 : Int} {pf0 : Value} (qf0 : PT gI.m wI z0 pf0) {pf1 : Value} (qf1 : PT gI.m wI z1 pf1) {pf2 : Value} (qf2 : PT gI.m wI z2 pf2) {r : Int} (h : f23 x0 x1 z0 z1 z2 = some r) : Fn Try.prog 23 #[.int .i64 (x0), .int .i64 (x1), pf0, pf1, pf2] gI wI (fun _ _ v => v = .int .i64 (r)) := by
 unfold f23 at h
 refine fn_of_E Try.func23 rfl (Nat.le_of_ble_eq_true rfl) fun g0 hm hfr => ?_
 have qf0 : PT g0.m wI z0 pf0 := hm ▸ qf0
 have qf1 : PT g0.m wI z1 pf1 := hm ▸ qf1
 have qf2 : PT g0.m wI z2 pf2 := hm ▸ qf2
 show E _ 25 none _ _ _ _ _
 refine E_seq (E_region (EL_at (.int .i64 (0)) rfl rfl ?_))
 refine EL_nil (thn_n (E_seq (L_load (x := .tmp 2) Try.isAgg3 Try.sizeOf3 qf0 fun v1 r1 hl1 => ?_)))
 obtain rfl := RV_int.1 r1
 refine L_load (x := .tmp 3) Try.isAgg22 Try.sizeOf22 qf1 fun v2 r2 hl2 => ?_
 obtain ⟨y3, hy3, h⟩ := bsome h
 have q4 := PT_idx r2 hy3
 refine L_load (x := .tmp 11) Try.isAgg3 Try.sizeOf3 q4 fun v5 r5 z3 => ?_
 obtain rfl := RV_int.1 r5
 refine L_load (x := .tmp 4) Try.isAgg3 Try.sizeOf3 qf2 fun v6 r6 z4 => ?_
 obtain rfl := RV_int.1 r6
 obtain ⟨y7, i5, h⟩ := bsome h
 refine L_load (x := .tmp 2) Try.isAgg3 Try.sizeOf3 qf0 fun v8 r8 l5 => ?_
 obtain rfl := RV_int.1 r8
 refine L_load (x := .tmp 3) Try.isAgg22 Try.sizeOf22 qf1 fun v9 r9 q5 => ?_
 obtain ⟨u0, i3, h⟩ := bsome h
 have t5 := PT_idx r9 i3
 refine L_load (x := .tmp 19) Try.isAgg3 Try.sizeOf3 t5 fun j6 x5 hl12 => ?_
 obtain rfl := RV_int.1 x5
 refine L_load (x := .tmp 4) Try.isAgg3 Try.sizeOf3 qf2 fun x6 i6 j3 => ?_
 obtain rfl := RV_int.1 i6
 obtain ⟨j1, o3, h⟩ := bsome h
 obtain ⟨o0, u3, h⟩ := bsome h
 refine E_drawL (g := g0) (n := 18) [(16, (fun v g w => v = .int .i64 (o0)))] [0, 1, 2, 3, 4, 5, 6, 7, 8, 9, 10, 11, 12, 13, 14, 15, 16, 17] rfl mixed (by kernel_rfl) (⟨fun _ => up_eq _, trivial⟩) ?_
 refine L_ld (c := .int .i64 (z0)) rfl rfl .plain (fun _ _ h => h.ch) hl1 rfl ?_
 refine L_ld (c := v2) rfl rfl .plain (fun _ _ h => h.ch) hl2 rfl ?_
 refine L_p (.int .i64 (x1)) rfl rfl (P_move rfl) ?_
 refine L_p (ePtr v2 x1 1) rfl rfl (P_indexAddr (α := Int) Try.underlying22 Try.sizeOf3 rfl r2 rfl hy3) ?_
 refine L_ld (c := .int .i64 (y3)) rfl rfl .plain (fun _ _ h => h.ch) z3 rfl ?_
 refine L_p (.int .i64 ((w64 (z0 * y3)))) rfl rfl (P_int rfl rfl rfl) ?_
 refine L_ld (c := .int .i64 (z2)) rfl rfl .plain (fun _ _ h => h.ch) z4 rfl ?_
 refine L_p (.int .i64 (y7)) rfl rfl (P_int rfl rfl (congrArg (Option.map (Value.int .i64)) i5)) ?_
 refine L_ld (c := .int .i64 (z0)) rfl rfl .plain (fun _ _ h => h.ch) l5 rfl ?_
 refine L_ld (c := v9) rfl rfl .plain (fun _ _ h => h.ch) q5 rfl ?_
 refine L_p (.int .i64 (x0)) rfl rfl (P_move rfl) ?_
 refine L_p (ePtr v9 x0 1) rfl rfl (P_indexAddr (α := Int) Try.underlying22 Try.sizeOf3 rfl r9 rfl i3) ?_
 refine L_ld (c := .int .i64 (u0)) rfl rfl .plain (fun _ _ h => h.ch) hl12 rfl ?_
 refine L_p (.int .i64 ((w64 (z0 * u0)))) rfl rfl (P_int rfl rfl rfl) ?_
 refine L_ld (c := .int .i64 (z2)) rfl rfl .plain (fun _ _ h => h.ch) j3 rfl ?_
 refine L_p (.int .i64 (j1)) rfl rfl (P_int rfl rfl (congrArg (Option.map (Value.int .i64)) o3)) ?_
 refine L_do (φ := fun v g w => v = .int .i64 (o0)) rfl rfl .plain (fun g w hd => D_call (g := g) (vs := [.int .i64 (y7), .int .i64 (j1)]) en24 (.cons rfl (.cons rfl .nil)) (wk24  u3) fun g' w' v hs hr => ⟨g', hs, hr⟩) (fun y6 hv => ?_)
 obtain ⟨_, _, _, rfl⟩ := hv
 refine L_p (.int .i64 (o0)) rfl rfl (P_assign rfl) ?_
 refine L_nl fun a7 b7 hs => ?_
 have hfr := hfr.ext hs
 clear hs
 refine EL_nil (thn_n (E_ret ?_))
 obtain rfl := sinj h
 exact end1 rfl rfl (show _ = .int .i64 (o0) from rfl) ⟨_, hfr, rfl⟩
def f38 (x0 : List Int) : Option (Bool) :=
 (f21 ((0 : Int)) ((1000000000 : Int)) x0).bind fun y2 =>
 some (y2)
def f46 (x0 : PayPayList) (x1 : Int) : Option (Int) :=
 (f71 (((x0).PayList).Rates) x1 ((fun a0 a1 => f72 a0 a1))).bind fun y6 =>
 Option.bind (α := Int) (
  bif (!y6.2) then
   some ((w64 (y6.1 - (1 : Int))))
  else
   some (y6.1)
  ) fun o0 =>
 (idx (((x0).PayList).Rates) o0).bind fun u0 =>
 some ((u0).Rate)
def f47 (x0 : PayPayList) : Option (Bool) :=
 jn (σ := Unit) (fun _ =>
  some ((decide (((((x0).PayList).Rates).length : Int) > (0 : Int))))
  ) fun g8 =>
 lp (σ := Int × Int × Int) (fun i8 (q5, t5, j1) =>
  bif (decide (j1 < ((((x0).PayList).Rates).length : Int))) then
   jn (σ := Int × Int) (fun (x5, i6) =>
    i8 (x5, i6, (w64 (j1 + (1 : Int))))
    ) fun k8 =>
   (idx (((x0).PayList).Rates) j1).bind fun i3 =>
   jn (σ := Unit) (fun _ =>
    k8 ((w64 ((i3).From + (1 : Int))), (1000 : Int))
    ) fun l8 =>
   Option.bind (α := Bool) (
    (f21 q5 t5 (([(i3).From] : List Int))).bind fun i5 =>
    bif (!i5) then
     some (true)
    else
     (f21 ((0 : Int)) ((10000 : Int)) (([(i3).Rate] : List Int))).bind fun y6 =>
     some ((!y6))
    ) fun o3 =>
   bif o3 then
    some (false)
   else
    l8 ()
  else
   g8 ()
  ) big ((0 : Int), (0 : Int), (0 : Int))
def f48 (x0 : List Int) : Option (Bool) :=
 (f21 ((0 : Int)) ((1000 : Int)) x0).bind fun y2 =>
 some (y2)
def f57 (x0 : PaySheet) : Option (Bool) :=
 Option.bind (α := Bool) (
  bif (decide (((((x0).PayTable).Rows).length : Int) > (6 : Int))) then
   some (true)
  else
   (f76 (((x0).PayTable).Rows) ((fun a0 => f77 a0))).bind fun j1 =>
   some (j1)
  ) fun u0 =>
 some (u0)
def f58 (x0 : PaySheet) : Option (Bool) :=
 jn (σ := Unit) (fun _ =>
  (f76 (((x0).PayTable).Rows) ((fun a0 => f78 a0 x0))).bind fun z4 =>
  some ((!z4))
  ) fun n7 =>
 Option.bind (α := Bool) (
  bif (((((x0).PayTable).Rows).length : Int) == (0 : Int)) then
   some (true)
  else
   (idx (((x0).PayTable).Rows) (0 : Int)).bind fun i3 =>
   bif (((i3).length : Int) == (0 : Int)) then
    some (true)
   else
    bif (((((x0).PayTable).Across).length : Int) != ((((x0).PayTable).Rows).length : Int)) then
     some (true)
    else
     (idx (((x0).PayTable).Rows) (0 : Int)).bind fun i5 =>
     some ((((((x0).PayTable).Down).length : Int) != ((i5).length : Int)))
  ) fun j3 =>
 bif j3 then
  some (false)
 else
  n7 ()
def f59 (x0 : List Int) : Option (Bool) :=
 (f21 ((-1 : Int)) ((1000000 : Int)) x0).bind fun y2 =>
 some (y2)
def f69 : Nat → (List Int) → (Int) → (Int) → (Int) → (Int → Int → Option Int) → Option ((List Int))
 | 0, _, _, _, _, _ => none
 | n + 1, x0, x1, x2, x3, x4 =>
  jn (σ := (List Int)) (fun j6 =>
   jn (σ := (List Int)) (fun x5 =>
    (shr64 (wu64 (w64 (x1 + x3))) (1 : Int)).bind fun u0 =>
    Option.bind (α := Int × Int) (
     bif (decide (x2 > (w64 u0))) then
      some ((w64 ((w64 ((w64 u0) + x2)) - x3)), (w64 u0))
     else
      some (x1, x2)
     ) fun (i9, k9) =>
    Option.bind (α := Int) (
     lp (σ := Int × Int) (fun lG (o3, z4) =>
      jn (σ := Unit) (fun _ =>
       (shr64 (wu64 (w64 (o3 + z4))) (1 : Int)).bind fun j3 =>
       (idx x5 (w64 ((w64 ((w64 ((w64 u0) + x2)) - (1 : Int))) - (w64 j3)))).bind fun yC =>
       (idx x5 (w64 j3)).bind fun aD =>
       (x4 yC aD).bind fun l9 =>
       bif (!(decide (l9 < (0 : Int)))) then
        lG ((w64 ((w64 j3) + (1 : Int))), z4)
       else
        lG (o3, (w64 j3))
       ) fun bI =>
      bif (decide (o3 < z4)) then
       bI ()
      else
       some (o3)
      ) big (i9, k9)
     ) fun o0 =>
    Option.bind (α := (List Int)) (
     Option.bind (α := Bool) (
      bif (decide (o0 < x2)) then
       some ((decide (x2 < (w64 ((w64 ((w64 u0) + x2)) - o0)))))
      else
       some (false)
      ) fun m7 =>
     bif m7 then
      (f82 x5 o0 x2 ((w64 ((w64 ((w64 u0) + x2)) - o0))) x4).bind fun cI =>
      some (cI)
     else
      some (x5)
     ) fun c8 =>
    Option.bind (α := (List Int)) (
     Option.bind (α := Bool) (
      bif (decide (x1 < o0)) then
       some ((decide (o0 < (w64 u0))))
      else
       some (false)
      ) fun n7 =>
     bif n7 then
      (f69 n c8 x1 o0 ((w64 u0)) x4).bind fun dI =>
      some (dI)
     else
      some (c8)
     ) fun g8 =>
    Option.bind (α := Bool) (
     bif (decide ((w64 u0) < (w64 ((w64 ((w64 u0) + x2)) - o0)))) then
      some ((decide ((w64 ((w64 ((w64 u0) + x2)) - o0)) < x3)))
     else
      some (false)
     ) fun o7 =>
    bif o7 then
     (f69 n g8 ((w64 u0)) ((w64 ((w64 ((w64 u0) + x2)) - o0))) x3 x4).bind fun jI =>
     some (jI)
    else
     some (g8)
    ) fun kI =>
   bif ((w64 (x3 - x2)) == (1 : Int)) then
    Option.bind (α := Int) (
     lp (σ := Int × Int) (fun mG (u3, i5) =>
      jn (σ := Unit) (fun _ =>
       (shr64 (wu64 (w64 (u3 + i5))) (1 : Int)).bind fun q5 =>
       (idx j6 x2).bind fun bD =>
       (idx j6 (w64 q5)).bind fun cD =>
       (x4 bD cD).bind fun n9 =>
       bif (!(decide (n9 < (0 : Int)))) then
        mG ((w64 ((w64 q5) + (1 : Int))), i5)
       else
        mG (u3, (w64 q5))
       ) fun lI =>
      bif (decide (u3 < i5)) then
       lI ()
      else
       some (u3)
      ) big (x1, x2)
     ) fun v6 =>
    Option.bind (α := (List Int)) (
     lp (σ := (List Int) × Int) (fun mI (x6, j1) =>
      jn (σ := Unit) (fun _ =>
       Option.bind (α := (List Int)) (
        (idx x6 (w64 (j1 - (1 : Int)))).bind fun mA =>
        (idx x6 j1).bind fun eD =>
        (idx x6 j1).bind fun gM =>
        (idx ((List.set x6 (Int.toNat j1) mA)) (w64 (j1 - (1 : Int)))).bind fun iM =>
        some ((List.set ((List.set x6 (Int.toNat j1) mA)) (Int.toNat (w64 (j1 - (1 : Int)))) eD))
        ) fun q8 =>
       mI (q8, (w64 (j1 - (1 : Int))))
       ) fun nI =>
      bif (decide (j1 > v6)) then
       nI ()
      else
       some (x6)
      ) big (j6, x2)
     ) fun nA =>
    some (nA)
   else
    kI (j6)
   ) fun pI =>
  bif ((w64 (x2 - x1)) == (1 : Int)) then
   Option.bind (α := Int) (
    lp (σ := Int × Int) (fun nG (z3, l5) =>
     jn (σ := Unit) (fun _ =>
      (shr64 (wu64 (w64 (z3 + l5))) (1 : Int)).bind fun t5 =>
      (idx x0 (w64 t5)).bind fun gD =>
      (idx x0 x1).bind fun iD =>
      (x4 gD iD).bind fun oA =>
      bif (decide (oA < (0 : Int))) then
       nG ((w64 ((w64 t5) + (1 : Int))), l5)
      else
       nG (z3, (w64 t5))
      ) fun qI =>
     bif (decide (z3 < l5)) then
      qI ()
     else
      some (z3)
     ) big (x2, x3)
    ) fun i6 =>
   Option.bind (α := (List Int)) (
    lp (σ := (List Int) × Int) (fun rI (y6, i3) =>
     jn (σ := Unit) (fun _ =>
      Option.bind (α := (List Int)) (
       (idx y6 (w64 (i3 + (1 : Int)))).bind fun pA =>
       (idx y6 i3).bind fun jD =>
       (idx y6 i3).bind fun jM =>
       (idx ((List.set y6 (Int.toNat i3) pA)) (w64 (i3 + (1 : Int)))).bind fun kM =>
       some ((List.set ((List.set y6 (Int.toNat i3) pA)) (Int.toNat (w64 (i3 + (1 : Int)))) jD))
       ) fun r8 =>
      rI (r8, (w64 (i3 + (1 : Int))))
      ) fun sI =>
     bif (decide (i3 < (w64 (i6 - (1 : Int))))) then
      sI ()
     else
      some (y6)
     ) big (x0, x1)
    ) fun qA =>
   some (qA)
  else
   pI (x0)
theorem en69 : Enters Try.prog 69 := enters_of Try.func69 (by kernel_rfl) rfl
theorem wk69 (n : Nat) : ∀ {iI : Nat} {gI : Gh} {wI : World} {x0 : List Int} {x1 : Int} {x2 : Int} {x3 : Int} {x4 : Int → Int → Option Int} {up0 : Value} (mp0 : OM iI gI wI 3 x0 up0) {up4 : Value} (rp4 : FnV2 Try.prog x4 up4 gI wI) {r : (List Int)} (h : f69 n x0 x1 x2 x3 x4 = some r), FnM Try.prog 69 #[up0, .int .i64 (x1), .int .i64 (x2), .int .i64 (x3), up4] iI gI wI (fun g w v => v = .tuple #[] ∧ OM iI g w 3 r up0) := by
 induction n with
 | zero => intros; rename_i h; cases h
 | succ n ih =>
 intro iI gI wI x0 x1 x2 x3 x4 up0 mp0 up4 rp4 r h
 simp only [f69] at h
 refine fnM_of_E Try.func69 rfl (Nat.le_of_ble_eq_true rfl) fun g0 hm hfr => ?_
 have lA := mp0
 replace mp0 := mp0.enter
 rw [← hm] at mp0
 replace hm : g0.m = gI.m := by rw [hm]
 obtain ⟨ff4, fa4, fc4, rfl, fen4, fcl4⟩ := rp4
 show E _ 220 none _ _ _ _ _
 refine E_joinC h (fun (s : (List Int)) e w => ∃ (g : Gh) , FrM iI gI wI g w ∧ e 0 = up0 ∧ OM 1 g w 3 (s : List Int) up0 ∧ e 1 = .int .i64 (x1) ∧ e 2 = .int .i64 (x2) ∧ e 3 = .int .i64 (x3) ∧ e 4 = (.func (.func ff4) fa4 fc4)) (fun X203 pI xK h => ?_) ?_
 ·refine E_seq (E_region (EL_mw (.int .i64 (x2)) rfl rfl ?_))
  refine EL_mw (.int .i64 (x1)) rfl rfl ?_
  refine EL_in (.int .i64 ((w64 (x2 - x1)))) rfl rfl rfl rfl ?_
  refine EL_in (.bool (((w64 (x2 - x1)) == (1 : Int)))) rfl rfl rfl rfl ?_
  refine EL_nil (thn_n ?_)
  rcases csome h with ⟨kD, h⟩ | ⟨kD, h⟩
  ·refine E_ct kD rfl ?_
   refine E_seq (E_region (EL_mw (.int .i64 (x2)) rfl rfl ?_))
   refine EL_at (.int .i64 (x2)) rfl rfl ?_
   refine EL_nil (thn_n (E_seq (E_region (EL_mw (.int .i64 (x3)) rfl rfl ?_))))
   refine EL_at (.int .i64 (x3)) rfl rfl ?_
   refine EL_nil (thn_n ?_)
   obtain ⟨i6, hx, h⟩ := bsome h
   refine E_join (fun e w => ∃ (g : Gh) , FrM iI gI wI g w ∧ e 0 = up0 ∧ OM 1 g w 3 (x0 : List Int) up0 ∧ e 1 = .int .i64 (x1) ∧ e 10 = .int .i64 (i6)) (fun Q' hQ => ?_) (fun vN bP hR => ?_)
   ·replace h := hx
    clear hx
    refine E_block ?_
    refine E_lp h (fun (s : Int × Int) e w => ∃ (g : Gh) , FrM iI gI wI g w ∧ e 0 = up0 ∧ OM 1 g w 3 (x0 : List Int) up0 ∧ e 1 = .int .i64 (x1) ∧ e 4 = (.func (.func ff4) fa4 fc4) ∧ e 10 = .int .i64 (s.1) ∧ e 11 = .int .i64 (s.2)) ⟨g0, hfr, rfl, mp0, rfl, rfl, rfl, rfl⟩ (fun X243 nG oG => ?_)
    rintro ⟨z3, l5⟩ xN cP ⟨tI, hfr, cE, dE, eE, uI, o9, nB⟩ h
    refine E_joinC h (fun (s : Unit) e w => ∃ (g : Gh) , FrM iI gI wI g w ∧ e 0 = up0 ∧ OM 1 g w 3 (x0 : List Int) up0 ∧ e 1 = .int .i64 (x1) ∧ e 4 = (.func (.func ff4) fa4 fc4) ∧ e 10 = .int .i64 (z3) ∧ e 11 = .int .i64 (l5)) (fun X246 qI yK h => ?_) ?_
    ·refine E_seq (E_region (EL_mv o9 rfl ?_))
     refine EL_mv nB rfl ?_
     refine EL_in (.bool ((decide (z3 < l5)))) rfl rfl rfl rfl ?_
     refine EL_nil (thn_n ?_)
     rcases csome h with ⟨lD, h⟩ | ⟨lD, h⟩
     ·refine E_ct lD rfl ?_
      exact E_skip (thn_n (yK () _ _ ⟨tI, hfr, cE, dE, eE, uI, o9, nB⟩ h))
     ·refine E_cf lD rfl ?_
      refine E_exit ?_
      refine thn_e ?_
      refine thn_e ?_
      refine blk_hit ?_
      obtain rfl := sinj h
      exact hQ _ _ ⟨tI, hfr, cE, dE, eE, o9⟩
    ·rintro _ yN dP ⟨mM, hfr, t8, a7, rA, uA, oB, tB⟩ h
     refine E_block ?_
     refine E_seq (E_region (EL_mv oB rfl ?_))
     refine EL_mv tB rfl ?_
     refine EL_in (.int .i64 ((w64 (z3 + l5)))) rfl rfl rfl rfl ?_
     refine EL_p (.int .u64 (wu64 (w64 (z3 + l5)))) (P_intu64 Try.underlying3 Try.underlying136 rfl) rfl ?_
     obtain ⟨t5, zK, h⟩ := bsome h
     refine EL_p (.int .u64 (t5)) (P_shrU rfl rfl zK) rfl ?_
     refine EL_p (.int .i64 ((w64 t5))) (P_u64int Try.underlying136 Try.underlying3 rfl) rfl ?_
     refine EL_at (.int .i64 ((w64 t5))) rfl rfl ?_
     refine EL_nil (thn_n (E_seq ?_))
     obtain ⟨gD, pG, h⟩ := bsome h
     refine L_loadM (x := .tmp 43) Try.isAgg3 Try.sizeOf3 a7 pG fun eP nM aL => ?_
     obtain rfl := RV_int.1 nM
     obtain ⟨iD, qG, h⟩ := bsome h
     refine L_loadM (x := .tmp 47) Try.isAgg3 Try.sizeOf3 a7 qG fun gP oM bL => ?_
     obtain rfl := RV_int.1 oM
     obtain ⟨oA, cL, h⟩ := bsome h
     refine E_drawL (g := mM) (n := 11) [(9, (fun v g w => v = .int .i64 (oA)))] [0, 1, 2, 3, 4, 5, 6, 7, 8, 9, 10] rfl mixed (by kernel_rfl) (⟨fun _ => up_eq _, trivial⟩) ?_
     refine L_p ((.func (.func ff4) fa4 fc4)) rfl rfl (P_move uA) ?_
     refine L_p up0 rfl rfl (P_move t8) ?_
     refine L_p (.int .i64 ((w64 t5))) rfl rfl (P_move rfl) ?_
     refine L_p (ePtr up0 (w64 t5) 1) rfl rfl (P_indexAddrM (α := Int) Try.underlying22 Try.sizeOf3 rfl a7 rfl pG) ?_
     refine L_ld (c := .int .i64 (gD)) rfl rfl .plain (fun _ _ h => ⟨h.ch, fun b hb _ => h.below.block b hb⟩) aL rfl ?_
     refine L_p up0 rfl rfl (P_move t8) ?_
     refine L_p (.int .i64 (x1)) rfl rfl (P_move rA) ?_
     refine L_p (ePtr up0 x1 1) rfl rfl (P_indexAddrM (α := Int) Try.underlying22 Try.sizeOf3 rfl a7 rfl qG) ?_
     refine L_ld (c := .int .i64 (iD)) rfl rfl .plain (fun _ _ h => ⟨h.ch, fun b hb _ => h.below.block b hb⟩) bL rfl ?_
     refine L_do (φ := fun v g w => v = .int .i64 (oA)) rfl rfl .plain (fun g w hd => D_callv (g := g) (vs := [.int .i64 (gD), .int .i64 (iD)]) rfl fen4 (.cons rfl (.cons rfl .nil)) (fcl4 _ _ (hfr.ext hd.1).ch _ _ _ _ _  (RV_int.2 rfl) (RV_int.2 rfl) cL) fun g' w' v hs hr => ⟨g', hs, RV_int.1 hr⟩) (fun iP hv => ?_)
     obtain ⟨_, _, _, rfl⟩ := hv
     refine L_p (.bool ((decide (oA < (0 : Int))))) rfl rfl (P_int rfl rfl rfl) ?_
     refine L_nl fun vI jP hs => ?_
     have hfr := hfr.ext hs
     have a7 := a7.ext hs
     clear hs
     refine EL_nil (thn_n ?_)
     rcases csome h with ⟨mD, h⟩ | ⟨mD, h⟩
     ·refine E_ct mD rfl ?_
      refine E_region (EL_mw (.int .i64 ((w64 t5))) rfl rfl ?_)
      refine EL_in (.int .i64 ((w64 ((w64 t5) + (1 : Int))))) rfl rfl rfl rfl ?_
      refine EL_at (.int .i64 ((w64 ((w64 t5) + (1 : Int))))) rfl rfl ?_
      exact EL_nil (blk_n (thn_n (oG ((w64 ((w64 t5) + (1 : Int))), l5) _ _ ⟨vI, hfr, t8, a7, rA, uA, rfl, tB⟩ h)))
     ·refine E_cf mD rfl ?_
      refine E_region (EL_mw (.int .i64 ((w64 t5))) rfl rfl ?_)
      refine EL_at (.int .i64 ((w64 t5))) rfl rfl ?_
      exact EL_nil (blk_n (thn_n (oG (z3, (w64 t5)) _ _ ⟨vI, hfr, t8, a7, rA, uA, oB, rfl⟩ h)))
   ·clear hx
    obtain ⟨pM, hfr, xI, yI, zI, jH⟩ := hR
    obtain ⟨qA, hx, h⟩ := bsome h
    refine E_join (fun e w => ∃ (g : Gh) , FrM iI gI wI g w ∧ e 0 = up0 ∧ OM 1 g w 3 (qA : List Int) up0) (fun Q' hQ => ?_) (fun zN kP hR => ?_)
    ·replace h := hx
     clear hx
     refine E_seq (E_region (EL_mv zI rfl ?_))
     refine EL_at (.int .i64 (x1)) rfl rfl ?_
     refine EL_nil (thn_n (E_block ?_))
     refine E_lp h (fun (s : (List Int) × Int) e w => ∃ (g : Gh) , FrM iI gI wI g w ∧ e 0 = up0 ∧ OM 1 g w 3 (s.1 : List Int) up0 ∧ e 10 = .int .i64 (i6) ∧ e 13 = .int .i64 (s.2)) ⟨pM, hfr, xI, yI, jH, rfl⟩ (fun X343 rI dL => ?_)
     rintro ⟨y6, i3⟩ aO lP ⟨aJ, hfr, gE, iE, vB, xB⟩ h
     refine E_joinC h (fun (s : Unit) e w => ∃ (g : Gh) , FrM iI gI wI g w ∧ e 0 = up0 ∧ OM 1 g w 3 (y6 : List Int) up0 ∧ e 10 = .int .i64 (i6) ∧ e 13 = .int .i64 (i3)) (fun X346 sI eL h => ?_) ?_
     ·refine E_seq (E_region (EL_mv xB rfl ?_))
      refine EL_mv vB rfl ?_
      refine EL_in (.int .i64 ((w64 (i6 - (1 : Int))))) rfl rfl rfl rfl ?_
      refine EL_p (.bool ((decide (i3 < (w64 (i6 - (1 : Int))))))) (P_int rfl rfl rfl) rfl ?_
      refine EL_nil (thn_n ?_)
      rcases csome h with ⟨nD, h⟩ | ⟨nD, h⟩
      ·refine E_ct nD rfl ?_
       exact E_skip (thn_n (eL () _ _ ⟨aJ, hfr, gE, iE, vB, xB⟩ h))
      ·refine E_cf nD rfl ?_
       refine E_exit ?_
       refine thn_e ?_
       refine thn_e ?_
       refine blk_hit ?_
       obtain rfl := sinj h
       exact hQ _ _ ⟨aJ, hfr, gE, iE⟩
     ·rintro _ bO qM ⟨bJ, hfr, i8, b7, kH, u7⟩ h
      obtain ⟨r8, hx, h⟩ := bsome h
      refine E_join (fun e w => ∃ (g : Gh) , FrM iI gI wI g w ∧ e 0 = up0 ∧ OM 1 g w 3 (r8 : List Int) up0 ∧ e 10 = .int .i64 (i6) ∧ e 13 = .int .i64 (i3)) (fun Q' hQ => ?_) (fun cO mP hR => ?_)
      ·replace h := hx
       clear hx
       refine E_block ?_
       obtain ⟨pA, rG, h⟩ := bsome h
       refine L_loadM (x := .tmp 69) Try.isAgg3 Try.sizeOf3 b7 rG fun nP rM gL => ?_
       obtain rfl := RV_int.1 rM
       obtain ⟨jD, sG, h⟩ := bsome h
       refine L_loadM (x := .tmp 73) Try.isAgg3 Try.sizeOf3 b7 sG fun oP sM iL => ?_
       obtain rfl := RV_int.1 sM
       obtain ⟨jM, tG, h⟩ := bsome h
       refine E_drawTL (g := bJ) (n := 15) [2, 3, 4] [] [0, 1, 2, 3, 4, 5, 6, 7, 8, 9, 10, 11, 12, 13, 14] rfl mixed (by kernel_rfl) trivial rfl ?_
       refine L_p up0 rfl rfl (P_move i8) ?_
       refine L_p (.int .i64 (i3)) rfl rfl (P_move u7) ?_
       refine L_purL (c := up0) rfl rfl .plain (P_move i8) ?_
       refine L_purL (c := .int .i64 (i3)) rfl rfl .plain (P_move u7) ?_
       refine L_purL (c := .int .i64 ((w64 (i3 + (1 : Int))))) rfl rfl .plain (P_int rfl rfl rfl) ?_
       refine L_p up0 rfl rfl (P_move i8) ?_
       refine L_p (.int .i64 (i3)) rfl rfl (P_move u7) ?_
       refine L_p (.int .i64 ((w64 (i3 + (1 : Int))))) rfl rfl (P_int rfl rfl rfl) ?_
       refine L_p (ePtr up0 (w64 (i3 + (1 : Int))) 1) rfl rfl (P_indexAddrM (α := Int) Try.underlying22 Try.sizeOf3 rfl b7 rfl rG) ?_
       refine L_ld (c := .int .i64 (pA)) rfl rfl .plain (fun _ _ h => ⟨h.ch, fun b hb _ => h.below.block b hb⟩) gL rfl ?_
       refine L_p up0 rfl rfl (P_move i8) ?_
       refine L_p (.int .i64 (i3)) rfl rfl (P_move u7) ?_
       refine L_p (ePtr up0 i3 1) rfl rfl (P_indexAddrM (α := Int) Try.underlying22 Try.sizeOf3 rfl b7 rfl sG) ?_
       refine L_ld (c := .int .i64 (jD)) rfl rfl .plain (fun _ _ h => ⟨h.ch, fun b hb _ => h.below.block b hb⟩) iL rfl ?_
       refine L_p (ePtr up0 i3 1) rfl rfl (P_indexAddrM (α := Int) Try.underlying22 Try.sizeOf3 rfl b7 rfl tG) ?_
       refine L_nl fun cJ tM hs => ?_
       have hlt : Lt bJ.m qM cJ tM := hs.ch
       have hfr := hfr.ext hs
       have b7 := b7.ext hs
       clear hs
       refine TL_do hlt.w .plain rfl (D_storeM (g := cJ) (α := Int) (a' := pA) Try.sizeOf3 rfl b7 tG rfl (RV_int.2 rfl) fun uM pP hs b400 => ?_)
       have hfr := hfr.stp hs
       have hlt := hlt.stp hs
       obtain ⟨kM, uG, h⟩ := bsome h
       refine TL_pur hlt.w (v := ePtr up0 (w64 (i3 + (1 : Int))) 1) (P_indexAddrM (α := Int) Try.underlying22 Try.sizeOf3 rfl b400 rfl uG) .plain rfl ?_
       refine TL_do hlt.w .plain rfl (D_storeM (g := uM) (α := Int) (a' := jD) Try.sizeOf3 rfl b400 uG rfl (RV_int.2 rfl) fun vM sP hs b402 => ?_)
       have hfr := hfr.stp hs
       have hlt := hlt.stp hs
       refine TL_nil hlt.w ?_
       clear hlt
       refine blk_n ?_
       obtain rfl := sinj h
       exact hQ _ _ ⟨vM, hfr, i8, b402, kH, u7⟩
      ·clear hx
       obtain ⟨xM, hfr, dJ, eJ, lH, mH⟩ := hR
       refine E_region (EL_mv mH rfl ?_)
       refine EL_in (.int .i64 ((w64 (i3 + (1 : Int))))) rfl rfl rfl rfl ?_
       refine EL_at (.int .i64 ((w64 (i3 + (1 : Int))))) rfl rfl ?_
       exact EL_nil (thn_n (dL (r8, (w64 (i3 + (1 : Int)))) _ _ ⟨xM, hfr, dJ, eJ, lH, rfl⟩ h))
    ·clear hx
     obtain ⟨tP, hfr, tN, gJ⟩ := hR
     refine E_ret (thn_r ?_)
     obtain rfl := sinj h
     exact end0 rfl rfl ⟨_, hfr, rfl, lA.back gJ⟩
  ·refine E_cf kD rfl ?_
   exact E_skip (thn_n (xK (x0) _ _ ⟨g0, hfr, rfl, mp0, rfl, rfl, rfl, rfl⟩ h))
 ·rintro j6 dO uP ⟨iJ, hfr, jE, kE, lE, v8, mE, nE⟩ h
  refine E_joinC h (fun (s : (List Int)) e w => ∃ (g : Gh) , FrM iI gI wI g w ∧ e 0 = up0 ∧ OM 1 g w 3 (s : List Int) up0 ∧ e 1 = .int .i64 (x1) ∧ e 2 = .int .i64 (x2) ∧ e 3 = .int .i64 (x3) ∧ e 4 = (.func (.func ff4) fa4 fc4)) (fun X609 kI jL h => ?_) ?_
  ·refine E_seq (E_region (EL_mv mE rfl ?_))
   refine EL_mv v8 rfl ?_
   refine EL_in (.int .i64 ((w64 (x3 - x2)))) rfl rfl rfl rfl ?_
   refine EL_in (.bool (((w64 (x3 - x2)) == (1 : Int)))) rfl rfl rfl rfl ?_
   refine EL_nil (thn_n ?_)
   rcases csome h with ⟨oD, h⟩ | ⟨oD, h⟩
   ·refine E_ct oD rfl ?_
    refine E_seq (E_region (EL_mv lE rfl ?_))
    refine EL_at (.int .i64 (x1)) rfl rfl ?_
    refine EL_nil (thn_n (E_seq (E_region (EL_mv v8 rfl ?_))))
    refine EL_at (.int .i64 (x2)) rfl rfl ?_
    refine EL_nil (thn_n ?_)
    obtain ⟨v6, hx, h⟩ := bsome h
    refine E_join (fun e w => ∃ (g : Gh) , FrM iI gI wI g w ∧ e 0 = up0 ∧ OM 1 g w 3 (j6 : List Int) up0 ∧ e 2 = .int .i64 (x2) ∧ e 14 = .int .i64 (v6)) (fun Q' hQ => ?_) (fun eO vP hR => ?_)
    ·replace h := hx
     clear hx
     refine E_block ?_
     refine E_lp h (fun (s : Int × Int) e w => ∃ (g : Gh) , FrM iI gI wI g w ∧ e 0 = up0 ∧ OM 1 g w 3 (j6 : List Int) up0 ∧ e 2 = .int .i64 (x2) ∧ e 4 = (.func (.func ff4) fa4 fc4) ∧ e 14 = .int .i64 (s.1) ∧ e 15 = .int .i64 (s.2)) ⟨iJ, hfr, jE, kE, v8, nE, rfl, rfl⟩ (fun X650 mG vG => ?_)
     rintro ⟨u3, i5⟩ gO xP ⟨jJ, hfr, oE, rE, sE, kJ, t9, yB⟩ h
     refine E_joinC h (fun (s : Unit) e w => ∃ (g : Gh) , FrM iI gI wI g w ∧ e 0 = up0 ∧ OM 1 g w 3 (j6 : List Int) up0 ∧ e 2 = .int .i64 (x2) ∧ e 4 = (.func (.func ff4) fa4 fc4) ∧ e 14 = .int .i64 (u3) ∧ e 15 = .int .i64 (i5)) (fun X653 lI lL h => ?_) ?_
     ·refine E_seq (E_region (EL_mv t9 rfl ?_))
      refine EL_mv yB rfl ?_
      refine EL_in (.bool ((decide (u3 < i5)))) rfl rfl rfl rfl ?_
      refine EL_nil (thn_n ?_)
      rcases csome h with ⟨sD, h⟩ | ⟨sD, h⟩
      ·refine E_ct sD rfl ?_
       exact E_skip (thn_n (lL () _ _ ⟨jJ, hfr, oE, rE, sE, kJ, t9, yB⟩ h))
      ·refine E_cf sD rfl ?_
       refine E_exit ?_
       refine thn_e ?_
       refine thn_e ?_
       refine blk_hit ?_
       obtain rfl := sinj h
       exact hQ _ _ ⟨jJ, hfr, oE, rE, sE, t9⟩
     ·rintro _ iO yP ⟨yM, hfr, x8, c7, xA, yA, zB, aC⟩ h
      refine E_block ?_
      refine E_seq (E_region (EL_mv zB rfl ?_))
      refine EL_mv aC rfl ?_
      refine EL_in (.int .i64 ((w64 (u3 + i5)))) rfl rfl rfl rfl ?_
      refine EL_p (.int .u64 (wu64 (w64 (u3 + i5)))) (P_intu64 Try.underlying3 Try.underlying136 rfl) rfl ?_
      obtain ⟨q5, mL, h⟩ := bsome h
      refine EL_p (.int .u64 (q5)) (P_shrU rfl rfl mL) rfl ?_
      refine EL_p (.int .i64 ((w64 q5))) (P_u64int Try.underlying136 Try.underlying3 rfl) rfl ?_
      refine EL_at (.int .i64 ((w64 q5))) rfl rfl ?_
      refine EL_nil (thn_n (E_seq ?_))
      obtain ⟨bD, xG, h⟩ := bsome h
      refine L_loadM (x := .tmp 95) Try.isAgg3 Try.sizeOf3 c7 xG fun zP zM nL => ?_
      obtain rfl := RV_int.1 zM
      obtain ⟨cD, yG, h⟩ := bsome h
      refine L_loadM (x := .tmp 99) Try.isAgg3 Try.sizeOf3 c7 yG fun bQ bN oL => ?_
      obtain rfl := RV_int.1 bN
      obtain ⟨n9, pL, h⟩ := bsome h
      refine E_drawL (g := yM) (n := 12) [(9, (fun v g w => v = .int .i64 (n9)))] [0, 1, 2, 3, 4, 5, 6, 7, 8, 9, 10, 11] rfl mixed (by kernel_rfl) (⟨fun _ => up_eq _, trivial⟩) ?_
      refine L_p ((.func (.func ff4) fa4 fc4)) rfl rfl (P_move yA) ?_
      refine L_p up0 rfl rfl (P_move x8) ?_
      refine L_p (.int .i64 (x2)) rfl rfl (P_move xA) ?_
      refine L_p (ePtr up0 x2 1) rfl rfl (P_indexAddrM (α := Int) Try.underlying22 Try.sizeOf3 rfl c7 rfl xG) ?_
      refine L_ld (c := .int .i64 (bD)) rfl rfl .plain (fun _ _ h => ⟨h.ch, fun b hb _ => h.below.block b hb⟩) nL rfl ?_
      refine L_p up0 rfl rfl (P_move x8) ?_
      refine L_p (.int .i64 ((w64 q5))) rfl rfl (P_move rfl) ?_
      refine L_p (ePtr up0 (w64 q5) 1) rfl rfl (P_indexAddrM (α := Int) Try.underlying22 Try.sizeOf3 rfl c7 rfl yG) ?_
      refine L_ld (c := .int .i64 (cD)) rfl rfl .plain (fun _ _ h => ⟨h.ch, fun b hb _ => h.below.block b hb⟩) oL rfl ?_
      refine L_do (φ := fun v g w => v = .int .i64 (n9)) rfl rfl .plain (fun g w hd => D_callv (g := g) (vs := [.int .i64 (bD), .int .i64 (cD)]) rfl fen4 (.cons rfl (.cons rfl .nil)) (fcl4 _ _ (hfr.ext hd.1).ch _ _ _ _ _  (RV_int.2 rfl) (RV_int.2 rfl) pL) fun g' w' v hs hr => ⟨g', hs, RV_int.1 hr⟩) (fun cQ hv => ?_)
      obtain ⟨_, _, _, rfl⟩ := hv
      refine L_p (.bool ((decide (n9 < (0 : Int))))) rfl rfl (P_int rfl rfl rfl) ?_
      refine L_p (.bool (!(decide (n9 < (0 : Int))))) rfl rfl (P_not rfl) ?_
      refine L_nl fun lJ dQ hs => ?_
      have hfr := hfr.ext hs
      have c7 := c7.ext hs
      clear hs
      refine EL_nil (thn_n ?_)
      rcases csome h with ⟨tD, h⟩ | ⟨tD, h⟩
      ·refine E_ct tD rfl ?_
       refine E_region (EL_mw (.int .i64 ((w64 q5))) rfl rfl ?_)
       refine EL_in (.int .i64 ((w64 ((w64 q5) + (1 : Int))))) rfl rfl rfl rfl ?_
       refine EL_at (.int .i64 ((w64 ((w64 q5) + (1 : Int))))) rfl rfl ?_
       exact EL_nil (blk_n (thn_n (vG ((w64 ((w64 q5) + (1 : Int))), i5) _ _ ⟨lJ, hfr, x8, c7, xA, yA, rfl, aC⟩ h)))
      ·refine E_cf tD rfl ?_
       refine E_region (EL_mw (.int .i64 ((w64 q5))) rfl rfl ?_)
       refine EL_at (.int .i64 ((w64 q5))) rfl rfl ?_
       exact EL_nil (blk_n (thn_n (vG (u3, (w64 q5)) _ _ ⟨lJ, hfr, x8, c7, xA, yA, zB, rfl⟩ h)))
    ·clear hx
     obtain ⟨cN, hfr, mJ, nJ, oJ, nH⟩ := hR
     obtain ⟨nA, hx, h⟩ := bsome h
     refine E_join (fun e w => ∃ (g : Gh) , FrM iI gI wI g w ∧ e 0 = up0 ∧ OM 1 g w 3 (nA : List Int) up0) (fun Q' hQ => ?_) (fun jO eQ hR => ?_)
     ·replace h := hx
      clear hx
      refine E_seq (E_region (EL_mv oJ rfl ?_))
      refine EL_at (.int .i64 (x2)) rfl rfl ?_
      refine EL_nil (thn_n (E_block ?_))
      refine E_lp h (fun (s : (List Int) × Int) e w => ∃ (g : Gh) , FrM iI gI wI g w ∧ e 0 = up0 ∧ OM 1 g w 3 (s.1 : List Int) up0 ∧ e 14 = .int .i64 (v6) ∧ e 17 = .int .i64 (s.2)) ⟨cN, hfr, mJ, nJ, nH, rfl⟩ (fun X751 mI qL => ?_)
      rintro ⟨x6, j1⟩ kO gQ ⟨pJ, hfr, tE, uE, cC, dC⟩ h
      refine E_joinC h (fun (s : Unit) e w => ∃ (g : Gh) , FrM iI gI wI g w ∧ e 0 = up0 ∧ OM 1 g w 3 (x6 : List Int) up0 ∧ e 14 = .int .i64 (v6) ∧ e 17 = .int .i64 (j1)) (fun X754 nI rL h => ?_) ?_
      ·refine E_seq (E_region (EL_mv dC rfl ?_))
       refine EL_mv cC rfl ?_
       refine EL_in (.bool ((decide (j1 > v6)))) rfl rfl rfl rfl ?_
       refine EL_nil (thn_n ?_)
       rcases csome h with ⟨uD, h⟩ | ⟨uD, h⟩
       ·refine E_ct uD rfl ?_
        exact E_skip (thn_n (rL () _ _ ⟨pJ, hfr, tE, uE, cC, dC⟩ h))
       ·refine E_cf uD rfl ?_
        refine E_exit ?_
        refine thn_e ?_
        refine thn_e ?_
        refine blk_hit ?_
        obtain rfl := sinj h
        exact hQ _ _ ⟨pJ, hfr, tE, uE⟩
      ·rintro _ lO dN ⟨qJ, hfr, k8, d7, oH, v7⟩ h
       obtain ⟨q8, hx, h⟩ := bsome h
       refine E_join (fun e w => ∃ (g : Gh) , FrM iI gI wI g w ∧ e 0 = up0 ∧ OM 1 g w 3 (q8 : List Int) up0 ∧ e 14 = .int .i64 (v6) ∧ e 17 = .int .i64 (j1)) (fun Q' hQ => ?_) (fun mO iQ hR => ?_)
       ·replace h := hx
        clear hx
        refine E_block ?_
        obtain ⟨mA, zG, h⟩ := bsome h
        refine L_loadM (x := .tmp 121) Try.isAgg3 Try.sizeOf3 d7 zG fun jQ eN tL => ?_
        obtain rfl := RV_int.1 eN
        obtain ⟨eD, aH, h⟩ := bsome h
        refine L_loadM (x := .tmp 125) Try.isAgg3 Try.sizeOf3 d7 aH fun kQ gN uL => ?_
        obtain rfl := RV_int.1 gN
        obtain ⟨gM, bH, h⟩ := bsome h
        refine E_drawTL (g := qJ) (n := 15) [2, 3, 4] [] [0, 1, 2, 3, 4, 5, 6, 7, 8, 9, 10, 11, 12, 13, 14] rfl mixed (by kernel_rfl) trivial rfl ?_
        refine L_p up0 rfl rfl (P_move k8) ?_
        refine L_p (.int .i64 (j1)) rfl rfl (P_move v7) ?_
        refine L_purL (c := up0) rfl rfl .plain (P_move k8) ?_
        refine L_purL (c := .int .i64 (j1)) rfl rfl .plain (P_move v7) ?_
        refine L_purL (c := .int .i64 ((w64 (j1 - (1 : Int))))) rfl rfl .plain (P_int rfl rfl rfl) ?_
        refine L_p up0 rfl rfl (P_move k8) ?_
        refine L_p (.int .i64 (j1)) rfl rfl (P_move v7) ?_
        refine L_p (.int .i64 ((w64 (j1 - (1 : Int))))) rfl rfl (P_int rfl rfl rfl) ?_
        refine L_p (ePtr up0 (w64 (j1 - (1 : Int))) 1) rfl rfl (P_indexAddrM (α := Int) Try.underlying22 Try.sizeOf3 rfl d7 rfl zG) ?_
        refine L_ld (c := .int .i64 (mA)) rfl rfl .plain (fun _ _ h => ⟨h.ch, fun b hb _ => h.below.block b hb⟩) tL rfl ?_
        refine L_p up0 rfl rfl (P_move k8) ?_
        refine L_p (.int .i64 (j1)) rfl rfl (P_move v7) ?_
        refine L_p (ePtr up0 j1 1) rfl rfl (P_indexAddrM (α := Int) Try.underlying22 Try.sizeOf3 rfl d7 rfl aH) ?_
        refine L_ld (c := .int .i64 (eD)) rfl rfl .plain (fun _ _ h => ⟨h.ch, fun b hb _ => h.below.block b hb⟩) uL rfl ?_
        refine L_p (ePtr up0 j1 1) rfl rfl (P_indexAddrM (α := Int) Try.underlying22 Try.sizeOf3 rfl d7 rfl bH) ?_
        refine L_nl fun rJ iN hs => ?_
        have hlt : Lt qJ.m dN rJ iN := hs.ch
        have hfr := hfr.ext hs
        have d7 := d7.ext hs
        clear hs
        refine TL_do hlt.w .plain rfl (D_storeM (g := rJ) (α := Int) (a' := mA) Try.sizeOf3 rfl d7 bH rfl (RV_int.2 rfl) fun jN lQ hs b808 => ?_)
        have hfr := hfr.stp hs
        have hlt := hlt.stp hs
        obtain ⟨iM, cH, h⟩ := bsome h
        refine TL_pur hlt.w (v := ePtr up0 (w64 (j1 - (1 : Int))) 1) (P_indexAddrM (α := Int) Try.underlying22 Try.sizeOf3 rfl b808 rfl cH) .plain rfl ?_
        refine TL_do hlt.w .plain rfl (D_storeM (g := jN) (α := Int) (a' := eD) Try.sizeOf3 rfl b808 cH rfl (RV_int.2 rfl) fun kN mQ hs b810 => ?_)
        have hfr := hfr.stp hs
        have hlt := hlt.stp hs
        refine TL_nil hlt.w ?_
        clear hlt
        refine blk_n ?_
        obtain rfl := sinj h
        exact hQ _ _ ⟨kN, hfr, k8, b810, oH, v7⟩
       ·clear hx
        obtain ⟨lN, hfr, sJ, tJ, pH, qH⟩ := hR
        refine E_region (EL_mv qH rfl ?_)
        refine EL_in (.int .i64 ((w64 (j1 - (1 : Int))))) rfl rfl rfl rfl ?_
        refine EL_at (.int .i64 ((w64 (j1 - (1 : Int))))) rfl rfl ?_
        exact EL_nil (thn_n (qL (q8, (w64 (j1 - (1 : Int)))) _ _ ⟨lN, hfr, sJ, tJ, pH, rfl⟩ h))
     ·clear hx
      obtain ⟨nQ, hfr, uN, uJ⟩ := hR
      refine E_ret (thn_r ?_)
      obtain rfl := sinj h
      exact end0 rfl rfl ⟨_, hfr, rfl, lA.back uJ⟩
   ·refine E_cf oD rfl ?_
    exact E_skip (thn_n (jL (j6) _ _ ⟨iJ, hfr, jE, kE, lE, v8, mE, nE⟩ h))
  ·rintro x5 nO oQ ⟨vJ, hfr, vE, xE, y8, l8, a9, yE⟩ h
   refine E_seq (E_region (EL_mv y8 rfl ?_))
   refine EL_mv a9 rfl ?_
   refine EL_in (.int .i64 ((w64 (x1 + x3)))) rfl rfl rfl rfl ?_
   refine EL_p (.int .u64 (wu64 (w64 (x1 + x3)))) (P_intu64 Try.underlying3 Try.underlying136 rfl) rfl ?_
   obtain ⟨u0, vL, h⟩ := bsome h
   refine EL_p (.int .u64 (u0)) (P_shrU rfl rfl vL) rfl ?_
   refine EL_p (.int .i64 ((w64 u0))) (P_u64int Try.underlying136 Try.underlying3 rfl) rfl ?_
   refine EL_at (.int .i64 ((w64 u0))) rfl rfl ?_
   refine EL_nil (thn_n (E_seq (E_region (EL_mw (.int .i64 ((w64 u0))) rfl rfl ?_))))
   refine EL_mv l8 rfl ?_
   refine EL_in (.int .i64 ((w64 ((w64 u0) + x2)))) rfl rfl rfl rfl ?_
   refine EL_at (.int .i64 ((w64 ((w64 u0) + x2)))) rfl rfl ?_
   refine EL_nil (thn_n (E_seq (E_region (EL_at (.int .i64 (0)) rfl rfl ?_))))
   refine EL_at (.int .i64 (0)) rfl rfl ?_
   refine EL_nil (thn_n ?_)
   obtain ⟨⟨i9, k9⟩, hx, h⟩ := bsome h
   refine E_join (fun e w => ∃ (g : Gh) , FrM iI gI wI g w ∧ e 0 = up0 ∧ OM 1 g w 3 (x5 : List Int) up0 ∧ e 1 = .int .i64 (x1) ∧ e 2 = .int .i64 (x2) ∧ e 3 = .int .i64 (x3) ∧ e 4 = (.func (.func ff4) fa4 fc4) ∧ e 18 = .int .i64 ((w64 u0)) ∧ e 19 = .int .i64 ((w64 ((w64 u0) + x2))) ∧ e 20 = .int .i64 (i9) ∧ e 21 = .int .i64 (k9)) (fun Q' hQ => ?_) (fun oO pQ hR => ?_)
   ·replace h := hx
    clear hx
    refine E_seq (E_region (EL_mv l8 rfl ?_))
    refine EL_mw (.int .i64 ((w64 u0))) rfl rfl ?_
    refine EL_in (.bool ((decide (x2 > (w64 u0))))) rfl rfl rfl rfl ?_
    refine EL_nil (thn_n ?_)
    rcases csome h with ⟨vD, h⟩ | ⟨vD, h⟩
    ·refine E_ct vD rfl ?_
     refine E_seq (E_region (EL_mw (.int .i64 ((w64 ((w64 u0) + x2)))) rfl rfl ?_))
     refine EL_mv a9 rfl ?_
     refine EL_p (.int .i64 ((w64 ((w64 ((w64 u0) + x2)) - x3)))) (P_int rfl rfl rfl) rfl ?_
     refine EL_p (.int .i64 ((w64 ((w64 ((w64 u0) + x2)) - x3)))) (P_assign rfl) rfl ?_
     refine EL_nil (thn_n (E_region (EL_mw (.int .i64 ((w64 u0))) rfl rfl ?_)))
     refine EL_at (.int .i64 ((w64 u0))) rfl rfl ?_
     refine EL_nil ?_
     obtain ⟨rfl, rfl⟩ := pairs2 h
     exact hQ _ _ ⟨vJ, hfr, vE, xE, y8, l8, a9, yE, rfl, rfl, rfl, rfl⟩
    ·refine E_cf vD rfl ?_
     refine E_seq (E_region (EL_mv y8 rfl ?_))
     refine EL_at (.int .i64 (x1)) rfl rfl ?_
     refine EL_nil (thn_n (E_region (EL_mv l8 rfl ?_)))
     refine EL_at (.int .i64 (x2)) rfl rfl ?_
     refine EL_nil ?_
     obtain ⟨rfl, rfl⟩ := pairs2 h
     exact hQ _ _ ⟨vJ, hfr, vE, xE, y8, l8, a9, yE, rfl, rfl, rfl, rfl⟩
   ·clear hx
    obtain ⟨mN, hfr, xJ, yJ, zJ, aK, bK, cK, sH, eC, tH, uH⟩ := hR
    refine E_seq (E_region (EL_mv eC rfl ?_))
    refine EL_p (.int .i64 ((w64 ((w64 ((w64 u0) + x2)) - (1 : Int))))) (P_int rfl rfl rfl) rfl ?_
    refine EL_p (.int .i64 ((w64 ((w64 ((w64 u0) + x2)) - (1 : Int))))) (P_assign rfl) rfl ?_
    refine EL_nil (thn_n ?_)
    obtain ⟨o0, hx, h⟩ := bsome h
    refine E_join (fun e w => ∃ (g : Gh) , FrM iI gI wI g w ∧ e 0 = up0 ∧ OM 1 g w 3 (x5 : List Int) up0 ∧ e 1 = .int .i64 (x1) ∧ e 2 = .int .i64 (x2) ∧ e 3 = .int .i64 (x3) ∧ e 4 = (.func (.func ff4) fa4 fc4) ∧ e 18 = .int .i64 ((w64 u0)) ∧ e 19 = .int .i64 ((w64 ((w64 u0) + x2))) ∧ e 20 = .int .i64 (o0)) (fun Q' hQ => ?_) (fun pO qQ hR => ?_)
    ·replace h := hx
     clear hx
     refine E_block ?_
     refine E_lp h (fun (s : Int × Int) e w => ∃ (g : Gh) , FrM iI gI wI g w ∧ e 0 = up0 ∧ OM 1 g w 3 (x5 : List Int) up0 ∧ e 1 = .int .i64 (x1) ∧ e 2 = .int .i64 (x2) ∧ e 3 = .int .i64 (x3) ∧ e 4 = (.func (.func ff4) fa4 fc4) ∧ e 18 = .int .i64 ((w64 u0)) ∧ e 19 = .int .i64 ((w64 ((w64 u0) + x2))) ∧ e 20 = .int .i64 (s.1) ∧ e 21 = .int .i64 (s.2) ∧ e 22 = .int .i64 ((w64 ((w64 ((w64 u0) + x2)) - (1 : Int))))) ⟨mN, hfr, xJ, yJ, zJ, aK, bK, cK, sH, eC, tH, uH, rfl⟩ (fun X864 lG dH => ?_)
     rintro ⟨o3, z4⟩ qO rQ ⟨dK, hfr, zE, cF, dF, eF, iF, nF, iC, jC, u9, kC, vH⟩ h
     refine E_joinC h (fun (s : Unit) e w => ∃ (g : Gh) , FrM iI gI wI g w ∧ e 0 = up0 ∧ OM 1 g w 3 (x5 : List Int) up0 ∧ e 1 = .int .i64 (x1) ∧ e 2 = .int .i64 (x2) ∧ e 3 = .int .i64 (x3) ∧ e 4 = (.func (.func ff4) fa4 fc4) ∧ e 18 = .int .i64 ((w64 u0)) ∧ e 19 = .int .i64 ((w64 ((w64 u0) + x2))) ∧ e 20 = .int .i64 (o3) ∧ e 21 = .int .i64 (z4) ∧ e 22 = .int .i64 ((w64 ((w64 ((w64 u0) + x2)) - (1 : Int))))) (fun X867 bI xL h => ?_) ?_
     ·refine E_seq (E_region (EL_mv u9 rfl ?_))
      refine EL_mv kC rfl ?_
      refine EL_in (.bool ((decide (o3 < z4)))) rfl rfl rfl rfl ?_
      refine EL_nil (thn_n ?_)
      rcases csome h with ⟨xD, h⟩ | ⟨xD, h⟩
      ·refine E_ct xD rfl ?_
       exact E_skip (thn_n (xL () _ _ ⟨dK, hfr, zE, cF, dF, eF, iF, nF, iC, jC, u9, kC, vH⟩ h))
      ·refine E_cf xD rfl ?_
       refine E_exit ?_
       refine thn_e ?_
       refine thn_e ?_
       refine blk_hit ?_
       obtain rfl := sinj h
       exact hQ _ _ ⟨dK, hfr, zE, cF, dF, eF, iF, nF, iC, jC, u9⟩
     ·rintro _ rO sQ ⟨nN, hfr, d9, e7, oF, pF, qF, zA, lC, mC, qC, rC, y9⟩ h
      refine E_block ?_
      refine E_seq (E_region (EL_mv qC rfl ?_))
      refine EL_mv rC rfl ?_
      refine EL_in (.int .i64 ((w64 (o3 + z4)))) rfl rfl rfl rfl ?_
      refine EL_p (.int .u64 (wu64 (w64 (o3 + z4)))) (P_intu64 Try.underlying3 Try.underlying136 rfl) rfl ?_
      obtain ⟨j3, yL, h⟩ := bsome h
      refine EL_p (.int .u64 (j3)) (P_shrU rfl rfl yL) rfl ?_
      refine EL_p (.int .i64 ((w64 j3))) (P_u64int Try.underlying136 Try.underlying3 rfl) rfl ?_
      refine EL_at (.int .i64 ((w64 j3))) rfl rfl ?_
      refine EL_nil (thn_n (E_seq ?_))
      obtain ⟨yC, gH, h⟩ := bsome h
      refine L_loadM (x := .tmp 163) Try.isAgg3 Try.sizeOf3 e7 gH fun tQ oN zL => ?_
      obtain rfl := RV_int.1 oN
      obtain ⟨aD, iH, h⟩ := bsome h
      refine L_loadM (x := .tmp 167) Try.isAgg3 Try.sizeOf3 e7 iH fun uQ pN aM => ?_
      obtain rfl := RV_int.1 pN
      obtain ⟨l9, bM, h⟩ := bsome h
      refine E_drawL (g := nN) (n := 14) [(11, (fun v g w => v = .int .i64 (l9)))] [0, 1, 2, 3, 4, 5, 6, 7, 8, 9, 10, 11, 12, 13] rfl mixed (by kernel_rfl) (⟨fun _ => up_eq _, trivial⟩) ?_
      refine L_p ((.func (.func ff4) fa4 fc4)) rfl rfl (P_move zA) ?_
      refine L_p up0 rfl rfl (P_move d9) ?_
      refine L_p (.int .i64 ((w64 ((w64 ((w64 u0) + x2)) - (1 : Int))))) rfl rfl (P_move y9) ?_
      refine L_p (.int .i64 ((w64 j3))) rfl rfl (P_move rfl) ?_
      refine L_p (.int .i64 ((w64 ((w64 ((w64 ((w64 u0) + x2)) - (1 : Int))) - (w64 j3))))) rfl rfl (P_int rfl rfl rfl) ?_
      refine L_p (ePtr up0 (w64 ((w64 ((w64 ((w64 u0) + x2)) - (1 : Int))) - (w64 j3))) 1) rfl rfl (P_indexAddrM (α := Int) Try.underlying22 Try.sizeOf3 rfl e7 rfl gH) ?_
      refine L_ld (c := .int .i64 (yC)) rfl rfl .plain (fun _ _ h => ⟨h.ch, fun b hb _ => h.below.block b hb⟩) zL rfl ?_
      refine L_p up0 rfl rfl (P_move d9) ?_
      refine L_p (.int .i64 ((w64 j3))) rfl rfl (P_move rfl) ?_
      refine L_p (ePtr up0 (w64 j3) 1) rfl rfl (P_indexAddrM (α := Int) Try.underlying22 Try.sizeOf3 rfl e7 rfl iH) ?_
      refine L_ld (c := .int .i64 (aD)) rfl rfl .plain (fun _ _ h => ⟨h.ch, fun b hb _ => h.below.block b hb⟩) aM rfl ?_
      refine L_do (φ := fun v g w => v = .int .i64 (l9)) rfl rfl .plain (fun g w hd => D_callv (g := g) (vs := [.int .i64 (yC), .int .i64 (aD)]) rfl fen4 (.cons rfl (.cons rfl .nil)) (fcl4 _ _ (hfr.ext hd.1).ch _ _ _ _ _  (RV_int.2 rfl) (RV_int.2 rfl) bM) fun g' w' v hs hr => ⟨g', hs, RV_int.1 hr⟩) (fun vQ hv => ?_)
      obtain ⟨_, _, _, rfl⟩ := hv
      refine L_p (.bool ((decide (l9 < (0 : Int))))) rfl rfl (P_int rfl rfl rfl) ?_
      refine L_p (.bool (!(decide (l9 < (0 : Int))))) rfl rfl (P_not rfl) ?_
      refine L_nl fun eK xQ hs => ?_
      have hfr := hfr.ext hs
      have e7 := e7.ext hs
      clear hs
      refine EL_nil (thn_n ?_)
      rcases csome h with ⟨yD, h⟩ | ⟨yD, h⟩
      ·refine E_ct yD rfl ?_
       refine E_region (EL_mw (.int .i64 ((w64 j3))) rfl rfl ?_)
       refine EL_in (.int .i64 ((w64 ((w64 j3) + (1 : Int))))) rfl rfl rfl rfl ?_
       refine EL_at (.int .i64 ((w64 ((w64 j3) + (1 : Int))))) rfl rfl ?_
       exact EL_nil (blk_n (thn_n (dH ((w64 ((w64 j3) + (1 : Int))), z4) _ _ ⟨eK, hfr, d9, e7, oF, pF, qF, zA, lC, mC, rfl, rC, y9⟩ h)))
      ·refine E_cf yD rfl ?_
       refine E_region (EL_mw (.int .i64 ((w64 j3))) rfl rfl ?_)
       refine EL_at (.int .i64 ((w64 j3))) rfl rfl ?_
       exact EL_nil (blk_n (thn_n (dH (o3, (w64 j3)) _ _ ⟨eK, hfr, d9, e7, oF, pF, qF, zA, lC, mC, qC, rfl, y9⟩ h)))
    ·clear hx
     obtain ⟨lK, hfr, rF, sF, tF, e9, uF, vF, tC, xH, m8⟩ := hR
     refine E_seq (E_region (EL_mv xH rfl ?_))
     refine EL_mv m8 rfl ?_
     refine EL_p (.int .i64 ((w64 ((w64 ((w64 u0) + x2)) - o0)))) (P_int rfl rfl rfl) rfl ?_
     refine EL_p (.int .i64 ((w64 ((w64 ((w64 u0) + x2)) - o0)))) (P_assign rfl) rfl ?_
     refine EL_nil (thn_n ?_)
     obtain ⟨c8, hx, h⟩ := bsome h
     refine E_join (fun e w => ∃ (g : Gh) , FrM iI gI wI g w ∧ e 0 = up0 ∧ OM 1 g w 3 (c8 : List Int) up0 ∧ e 1 = .int .i64 (x1) ∧ e 3 = .int .i64 (x3) ∧ e 4 = (.func (.func ff4) fa4 fc4) ∧ e 18 = .int .i64 ((w64 u0)) ∧ e 20 = .int .i64 (o0) ∧ e 24 = .int .i64 ((w64 ((w64 ((w64 u0) + x2)) - o0)))) (fun Q' hQ => ?_) (fun sO yQ hR => ?_)
     ·replace h := hx
      clear hx
      obtain ⟨m7, hx, h⟩ := bsome h
      refine E_join (fun e w => ∃ (g : Gh) , FrM iI gI wI g w ∧ e 0 = up0 ∧ OM 1 g w 3 (x5 : List Int) up0 ∧ e 1 = .int .i64 (x1) ∧ e 2 = .int .i64 (x2) ∧ e 3 = .int .i64 (x3) ∧ e 4 = (.func (.func ff4) fa4 fc4) ∧ e 18 = .int .i64 ((w64 u0)) ∧ e 20 = .int .i64 (o0) ∧ e 24 = .int .i64 ((w64 ((w64 ((w64 u0) + x2)) - o0))) ∧ e 185 = .bool (m7)) (fun Q' hQ => ?_) (fun tO zQ hR => ?_)
      ·replace h := hx
       clear hx
       refine E_region (EL_mv m8 rfl ?_)
       refine EL_mv e9 rfl ?_
       refine EL_in (.bool ((decide (o0 < x2)))) rfl rfl rfl rfl ?_
       refine EL_mw (.bool ((decide (o0 < x2)))) rfl rfl ?_
       rcases csome h with ⟨g7, h⟩ | ⟨g7, h⟩
       ·refine EL_y (.int .i64 (x2)) (P_move e9) rfl rfl g7 rfl ?_
        refine EL_y (.int .i64 ((w64 ((w64 ((w64 u0) + x2)) - o0)))) (P_move rfl) rfl rfl g7 rfl ?_
        refine EL_y (.bool ((decide (x2 < (w64 ((w64 ((w64 u0) + x2)) - o0)))))) (P_int rfl rfl rfl) rfl rfl g7 rfl ?_
        refine EL_p (.bool ((decide (x2 < (w64 ((w64 ((w64 u0) + x2)) - o0)))))) (P_pick (b := (decide (o0 < x2))) rfl (pick_t g7 rfl)) rfl ?_
        refine EL_nil ?_
        obtain rfl := sinj h
        exact hQ _ _ ⟨lK, hfr, rF, sF, tF, e9, uF, vF, tC, m8, rfl, rfl⟩
       ·refine EL_s rfl rfl g7 rfl rfl ?_
        refine EL_s rfl rfl g7 rfl rfl ?_
        refine EL_s rfl rfl g7 rfl rfl ?_
        refine EL_p (.bool false) (P_pick (b := (decide (o0 < x2))) rfl (pick_f g7 rfl)) rfl ?_
        refine EL_nil ?_
        obtain rfl := sinj h
        exact hQ _ _ ⟨lK, hfr, rF, sF, tF, e9, uF, vF, tC, m8, rfl, rfl⟩
      ·clear hx
       obtain ⟨mK, hfr, aB, xF, yF, nK, zF, bB, uC, z9, bA, cB⟩ := hR
       rcases csome h with ⟨zD, h⟩ | ⟨zD, h⟩
       ·refine E_cond_true (Eq.trans (show ev _ _ = .bool (m7) from cB) (congrArg Value.bool zD)) ?_
        refine E_region (EL_mv aB rfl ?_)
        refine EL_mv z9 rfl ?_
        refine EL_mv nK rfl ?_
        refine EL_p (.int .i64 ((w64 ((w64 ((w64 u0) + x2)) - o0)))) (P_move bA) rfl ?_
        refine EL_mv bB rfl ?_
        obtain ⟨cI, cM, h⟩ := bsome h
        refine EL_do .plain rfl (D_callM (g := mK) (i := 1) (vs := [up0, .int .i64 (o0), .int .i64 (x2), .int .i64 ((w64 ((w64 ((w64 u0) + x2)) - o0))), (.func (.func ff4) fa4 fc4)]) en82 (.cons rfl (.cons rfl (.cons rfl (.cons rfl (.cons rfl .nil))))) (wk82 xF (FnV2.ch ⟨_, _, _, rfl, fen4, fcl4⟩ hfr.ch) cM) fun qN uO aR hs hr => ?_)
        obtain ⟨hrv, b921⟩ := hr
        have hfr := hfr.stp hs
        subst hrv
        refine EL_nil ?_
        obtain rfl := sinj h
        exact hQ _ _ ⟨qN, hfr, aB, b921, yF, zF, bB, uC, z9, bA⟩
       ·refine E_cond_false (Eq.trans (show ev _ _ = .bool (m7) from cB) (congrArg Value.bool zD)) ?_
        refine E_skip ?_
        obtain rfl := sinj h
        exact hQ _ _ ⟨mK, hfr, aB, xF, yF, zF, bB, uC, z9, bA⟩
     ·clear hx
      obtain ⟨oK, hfr, aG, bG, dB, cG, dG, gA, n8, vC⟩ := hR
      obtain ⟨g8, hx, h⟩ := bsome h
      refine E_join (fun e w => ∃ (g : Gh) , FrM iI gI wI g w ∧ e 0 = up0 ∧ OM 1 g w 3 (g8 : List Int) up0 ∧ e 3 = .int .i64 (x3) ∧ e 4 = (.func (.func ff4) fa4 fc4) ∧ e 18 = .int .i64 ((w64 u0)) ∧ e 24 = .int .i64 ((w64 ((w64 ((w64 u0) + x2)) - o0)))) (fun Q' hQ => ?_) (fun vO bR hR => ?_)
      ·replace h := hx
       clear hx
       obtain ⟨n7, hx, h⟩ := bsome h
       refine E_join (fun e w => ∃ (g : Gh) , FrM iI gI wI g w ∧ e 0 = up0 ∧ OM 1 g w 3 (c8 : List Int) up0 ∧ e 1 = .int .i64 (x1) ∧ e 3 = .int .i64 (x3) ∧ e 4 = (.func (.func ff4) fa4 fc4) ∧ e 18 = .int .i64 ((w64 u0)) ∧ e 20 = .int .i64 (o0) ∧ e 24 = .int .i64 ((w64 ((w64 ((w64 u0) + x2)) - o0))) ∧ e 199 = .bool (n7)) (fun Q' hQ => ?_) (fun xO cR hR => ?_)
       ·replace h := hx
        clear hx
        refine E_region (EL_mv dB rfl ?_)
        refine EL_mv n8 rfl ?_
        refine EL_in (.bool ((decide (x1 < o0)))) rfl rfl rfl rfl ?_
        refine EL_mw (.bool ((decide (x1 < o0)))) rfl rfl ?_
        rcases csome h with ⟨i7, h⟩ | ⟨i7, h⟩
        ·refine EL_y (.int .i64 (o0)) (P_move n8) rfl rfl i7 rfl ?_
         refine EL_y (.int .i64 ((w64 u0))) (P_move gA) rfl rfl i7 rfl ?_
         refine EL_y (.bool ((decide (o0 < (w64 u0))))) (P_int rfl rfl rfl) rfl rfl i7 rfl ?_
         refine EL_p (.bool ((decide (o0 < (w64 u0))))) (P_pick (b := (decide (x1 < o0))) rfl (pick_t i7 rfl)) rfl ?_
         refine EL_nil ?_
         obtain rfl := sinj h
         exact hQ _ _ ⟨oK, hfr, aG, bG, dB, cG, dG, gA, n8, vC, rfl⟩
        ·refine EL_s rfl rfl i7 rfl rfl ?_
         refine EL_s rfl rfl i7 rfl rfl ?_
         refine EL_s rfl rfl i7 rfl rfl ?_
         refine EL_p (.bool false) (P_pick (b := (decide (x1 < o0))) rfl (pick_f i7 rfl)) rfl ?_
         refine EL_nil ?_
         obtain rfl := sinj h
         exact hQ _ _ ⟨oK, hfr, aG, bG, dB, cG, dG, gA, n8, vC, rfl⟩
       ·clear hx
        obtain ⟨pK, hfr, eB, eG, qK, gG, iB, iA, yH, xC, jB⟩ := hR
        rcases csome h with ⟨aE, h⟩ | ⟨aE, h⟩
        ·refine E_cond_true (Eq.trans (show ev _ _ = .bool (n7) from jB) (congrArg Value.bool aE)) ?_
         refine E_region (EL_mv eB rfl ?_)
         refine EL_mv qK rfl ?_
         refine EL_mv yH rfl ?_
         refine EL_mv iA rfl ?_
         refine EL_mv iB rfl ?_
         obtain ⟨dI, dM, h⟩ := bsome h
         refine EL_do .plain rfl (D_callM (g := pK) (i := 1) (vs := [up0, .int .i64 (x1), .int .i64 (o0), .int .i64 ((w64 u0)), (.func (.func ff4) fa4 fc4)]) en69 (.cons rfl (.cons rfl (.cons rfl (.cons rfl (.cons rfl .nil))))) (ih eG (FnV2.ch ⟨_, _, _, rfl, fen4, fcl4⟩ hfr.ch) dM) fun rN yO dR hs hr => ?_)
         obtain ⟨hrv, b934⟩ := hr
         have hfr := hfr.stp hs
         subst hrv
         refine EL_nil ?_
         obtain rfl := sinj h
         exact hQ _ _ ⟨rN, hfr, eB, b934, gG, iB, iA, xC⟩
        ·refine E_cond_false (Eq.trans (show ev _ _ = .bool (n7) from jB) (congrArg Value.bool aE)) ?_
         refine E_skip ?_
         obtain rfl := sinj h
         exact hQ _ _ ⟨pK, hfr, eB, eG, gG, iB, iA, xC⟩
      ·clear hx
       obtain ⟨sK, hfr, hG, iG, lB, jG, jA, o8⟩ := hR
       obtain ⟨o7, hx, h⟩ := bsome h
       refine E_join (fun e w => ∃ (g : Gh) , FrM iI gI wI g w ∧ e 0 = up0 ∧ OM 1 g w 3 (g8 : List Int) up0 ∧ e 3 = .int .i64 (x3) ∧ e 4 = (.func (.func ff4) fa4 fc4) ∧ e 18 = .int .i64 ((w64 u0)) ∧ e 24 = .int .i64 ((w64 ((w64 ((w64 u0) + x2)) - o0))) ∧ e 213 = .bool (o7)) (fun Q' hQ => ?_) (fun zO eR hR => ?_)
       ·replace h := hx
        clear hx
        refine E_region (EL_mv jA rfl ?_)
        refine EL_p (.int .i64 ((w64 ((w64 ((w64 u0) + x2)) - o0)))) (P_move o8) rfl ?_
        refine EL_p (.bool ((decide ((w64 u0) < (w64 ((w64 ((w64 u0) + x2)) - o0)))))) (P_int rfl rfl rfl) rfl ?_
        refine EL_p (.bool ((decide ((w64 u0) < (w64 ((w64 ((w64 u0) + x2)) - o0)))))) (P_move rfl) rfl ?_
        rcases csome h with ⟨j7, h⟩ | ⟨j7, h⟩
        ·refine EL_y (.int .i64 ((w64 ((w64 ((w64 u0) + x2)) - o0)))) (P_move o8) rfl rfl j7 rfl ?_
         refine EL_y (.int .i64 (x3)) (P_move lB) rfl rfl j7 rfl ?_
         refine EL_y (.bool ((decide ((w64 ((w64 ((w64 u0) + x2)) - o0)) < x3)))) (P_int rfl rfl rfl) rfl rfl j7 rfl ?_
         refine EL_p (.bool ((decide ((w64 ((w64 ((w64 u0) + x2)) - o0)) < x3)))) (P_pick (b := (decide ((w64 u0) < (w64 ((w64 ((w64 u0) + x2)) - o0))))) rfl (pick_t j7 rfl)) rfl ?_
         refine EL_nil ?_
         obtain rfl := sinj h
         exact hQ _ _ ⟨sK, hfr, hG, iG, lB, jG, jA, o8, rfl⟩
        ·refine EL_s rfl rfl j7 rfl rfl ?_
         refine EL_s rfl rfl j7 rfl rfl ?_
         refine EL_s rfl rfl j7 rfl rfl ?_
         refine EL_p (.bool false) (P_pick (b := (decide ((w64 u0) < (w64 ((w64 ((w64 u0) + x2)) - o0))))) rfl (pick_f j7 rfl)) rfl ?_
         refine EL_nil ?_
         obtain rfl := sinj h
         exact hQ _ _ ⟨sK, hfr, hG, iG, lB, jG, jA, o8, rfl⟩
       ·clear hx
        obtain ⟨sN, hfr, tK, kG, uK, vK, zH, aI, mB⟩ := hR
        rcases csome h with ⟨bE, h⟩ | ⟨bE, h⟩
        ·refine E_cond_true (Eq.trans (show ev _ _ = .bool (o7) from mB) (congrArg Value.bool bE)) ?_
         refine E_region (EL_mv tK rfl ?_)
         refine EL_mv zH rfl ?_
         refine EL_p (.int .i64 ((w64 ((w64 ((w64 u0) + x2)) - o0)))) (P_move aI) rfl ?_
         refine EL_mv uK rfl ?_
         refine EL_mv vK rfl ?_
         obtain ⟨jI, eM, h⟩ := bsome h
         refine EL_do .plain rfl (D_callM (g := sN) (i := 1) (vs := [up0, .int .i64 ((w64 u0)), .int .i64 ((w64 ((w64 ((w64 u0) + x2)) - o0))), .int .i64 (x3), (.func (.func ff4) fa4 fc4)]) en69 (.cons rfl (.cons rfl (.cons rfl (.cons rfl (.cons rfl .nil))))) (ih kG (FnV2.ch ⟨_, _, _, rfl, fen4, fcl4⟩ hfr.ch) eM) fun gR aP iR hs hr => ?_)
         obtain ⟨hrv, b941⟩ := hr
         have hfr := hfr.stp hs
         subst hrv
         refine EL_nil ?_
         obtain rfl := sinj h
         exact end0n rfl rfl ⟨_, hfr, rfl, lA.back b941⟩
        ·refine E_cond_false (Eq.trans (show ev _ _ = .bool (o7) from mB) (congrArg Value.bool bE)) ?_
         refine E_skip ?_
         obtain rfl := sinj h
         exact end0n rfl rfl ⟨_, hfr, rfl, lA.back kG⟩
def f70 (x0 : List Int) : Option (Bool) :=
 Option.bind (α := Bool) (
  (f83 x0).bind fun y9 =>
  bif y9 then
   (f79 x0).bind fun j3 =>
   (f84 j3).bind fun j1 =>
   some ((((j1).length : Int) == ((x0).length : Int)))
  else
   some (false)
  ) fun u0 =>
 some (u0)
def f74 : Nat → (List Int) → (Int) → (Int) → (Int) → Option ((List Int))
 | 0, _, _, _, _ => none
 | n + 1, x0, x1, x2, x3 =>
  lp (σ := (List Int) × Int × Int × Int × Bool × Bool) (fun k1 (j3, o0, u0, j1, i3, o3) =>
   jn (σ := (List Int)) (fun u3 =>
    jn (σ := (List Int)) (fun q5 =>
     Option.bind (α := Int) (
      bif (!i3) then
       none
      else
       some (j1)
      ) fun t5 =>
     none
     ) fun m8 =>
    bif (j1 == (0 : Int)) then
     none
    else
     m8 (u3)
    ) fun k6 =>
   bif (decide ((w64 (u0 - o0)) ≤ (12 : Int))) then
    (f85 j3 o0 u0).bind fun y9 =>
    some (y9)
   else
    k6 (j3)
   ) big (x0, x1, x2, x3, true, true)
def f26 (x0 : PayPayList) (x1 : PayPiece) : Option (Int) :=
 Option.bind (α := Int) (
  lp (σ := Int × Int) (fun l8 (u0, o0) =>
   bif (decide (o0 < (((x1).Extras).length : Int))) then
    Option.bind (α := Int) (
     (idx ((x1).Extras) o0).bind fun l5 =>
     (idx (((x0).PayList).Extras) l5).bind fun v6 =>
     some ((w64 (u0 + v6)))
     ) fun i3 =>
    l8 (i3, (w64 (o0 + (1 : Int))))
   else
    some (u0)
   ) big ((1000 : Int), (0 : Int))
  ) fun j1 =>
 (f46 x0 ((x1).Dense)).bind fun z3 =>
 (quo64 (w64 ((w64 ((x1).Picks * z3)) * j1)) (1000000 : Int)).bind fun q5 =>
 some (q5)
def f28 (x0 : PayPayList) (x1 : PayPiece) (x2 : Int) : Option (Int) :=
 (f26 x0 x1).bind fun y6 =>
 (f27 x0 y6 x2).bind fun y9 =>
 some ((w64 (y6 - y9)))
def f29 (x0 : PayList) : Option (Int) :=
 jn (σ := Unit) (fun _ =>
  some ((0 : Int))
  ) fun g7 =>
 Option.bind (α := Bool) (
  bif (decide ((((x0).Rates).length : Int) > (6 : Int))) then
   some ((decide ((((x0).Rates).length : Int) > (6 : Int))))
  else
   some ((decide ((((x0).Extras).length : Int) > (8 : Int))))
  ) fun j1 =>
 bif j1 then
  some ((5 : Int))
 else
  Option.bind (α := Bool) (
   (f47 ((⟨x0⟩ : PayPayList))).bind fun q5 =>
   bif (!q5) then
    some ((!q5))
   else
    (f48 ((x0).Extras)).bind fun j3 =>
    bif (!j3) then
     some ((!j3))
    else
     (f21 ((0 : Int)) ((1000 : Int)) (([(x0).Fine] : List Int))).bind fun o3 =>
     bif (!o3) then
      some ((!o3))
     else
      (f48 (([(x0).Cap] : List Int))).bind fun z3 =>
      some ((!z3))
   ) fun u0 =>
  bif u0 then
   some ((2 : Int))
  else
   g7 ()
def f39 (x0 : PayTable) : Option (PaySheet × Int) :=
 jn (σ := PaySheet) (fun u7 =>
  some ((⟨x0⟩ : PaySheet), (0 : Int))
  ) fun d9 =>
 (f57 ((⟨x0⟩ : PaySheet))).bind fun v7 =>
 bif v7 then
  some ((⟨x0⟩ : PaySheet), (5 : Int))
 else
  (f58 ((⟨x0⟩ : PaySheet))).bind fun m7 =>
  bif (!m7) then
   some ((⟨x0⟩ : PaySheet), (4 : Int))
  else
   Option.bind (α := Bool) (
    (f35 ((x0).Rows)).bind fun c8 =>
    (f59 c8).bind fun z4 =>
    bif (!z4) then
     some ((!z4))
    else
     (f38 ((x0).Across)).bind fun i5 =>
     bif (!i5) then
      some ((!i5))
     else
      (f38 ((x0).Down)).bind fun l5 =>
      bif (!l5) then
       some ((!l5))
      else
       (f38 (([(x0).Total] : List Int))).bind fun x5 =>
       some ((!x5))
    ) fun i3 =>
   bif i3 then
    some ((⟨x0⟩ : PaySheet), (2 : Int))
   else
    (f52 ((⟨x0⟩ : PaySheet))).bind fun q5 =>
    bif (decide (((q5).length : Int) > (12 : Int))) then
     some ((⟨x0⟩ : PaySheet), (8 : Int))
    else
     d9 ((⟨⟨[], [], [], 0⟩⟩ : PaySheet))
def f43 (x0 : List Int) (x1 : Int) (x2 : Int → Int → Option Int) : Option ((List Int)) :=
 Option.bind (α := (List Int) × Int) (
  lp (σ := (List Int) × Int × Int) (fun k9 (u3, o3, u0) =>
   jn (σ := Unit) (fun _ =>
    (f68 u3 o3 u0 x2).bind fun t9 =>
    k9 (t9, u0, (w64 (u0 + (20 : Int))))
    ) fun dB =>
   bif (decide (u0 ≤ x1)) then
    dB ()
   else
    some (u3, o3)
   ) big (x0, (0 : Int), (20 : Int))
  ) fun (x5, z3) =>
 (f68 x5 z3 x1 x2).bind fun eB =>
 lp (σ := (List Int) × Int) (fun iB (z4, o0) =>
  jn (σ := Unit) (fun _ =>
   Option.bind (α := (List Int) × Int) (
    lp (σ := (List Int) × Int × Int) (fun jB (i5, j3, j1) =>
     jn (σ := Unit) (fun _ =>
      (f69 big i5 j3 ((w64 (j3 + o0))) j1 x2).bind fun u9 =>
      jB (u9, j1, (w64 (j1 + (w64 ((2 : Int) * o0)))))
      ) fun lB =>
     bif (decide (j1 ≤ x1)) then
      lB ()
     else
      some (i5, j3)
     ) big (z4, (0 : Int), (w64 ((2 : Int) * o0)))
    ) fun (l5, i3) =>
   Option.bind (α := (List Int)) (
    bif (decide ((w64 (i3 + o0)) < x1)) then
     (f69 big l5 i3 ((w64 (i3 + o0))) x1 x2).bind fun mB =>
     some (mB)
    else
     some (l5)
    ) fun q5 =>
   iB (q5, (w64 (o0 * (2 : Int))))
   ) fun nB =>
  bif (decide (o0 < x1)) then
   nB ()
  else
   some (z4)
  ) big (eB, (20 : Int))
theorem en43 : Enters Try.prog 43 := enters_of Try.func43 (by kernel_rfl) rfl
theorem wk43 {iI : Nat} {gI : Gh} {wI : World} {x0 : List Int} {x1 : Int} {x2 : Int → Int → Option Int} {up0 : Value} (mp0 : OM iI gI wI 3 x0 up0) {up2 : Value} (rp2 : FnV2 Try.prog x2 up2 gI wI) {r : (List Int)} (h : f43 x0 x1 x2 = some r) : FnM Try.prog 43 #[up0, .int .i64 (x1), up2] iI gI wI (fun g w v => v = .tuple #[] ∧ OM iI g w 3 r up0) := by
 unfold f43 at h
 refine fnM_of_E Try.func43 rfl (Nat.le_of_ble_eq_true rfl) fun g0 hm hfr => ?_
 have y9 := mp0
 replace mp0 := mp0.enter
 rw [← hm] at mp0
 replace hm : g0.m = gI.m := by rw [hm]
 obtain ⟨ff2, fa2, fc2, rfl, fen2, fcl2⟩ := rp2
 show E _ 63 none _ _ _ _ _
 refine E_seq (E_region (EL_at (.int .i64 (20)) rfl rfl ?_))
 refine EL_nil (thn_n (E_seq (E_region (EL_mw (.int .i64 (20)) rfl rfl ?_))))
 refine EL_at (.int .i64 (0)) rfl rfl ?_
 refine EL_at (.int .i64 (20)) rfl rfl ?_
 refine EL_nil (thn_n ?_)
 obtain ⟨⟨x5, z3⟩, hx, h⟩ := bsome h
 refine E_join (fun e w => ∃ (g : Gh) , FrM iI gI wI g w ∧ e 0 = up0 ∧ OM 1 g w 3 (x5 : List Int) up0 ∧ e 1 = .int .i64 (x1) ∧ e 2 = (.func (.func ff2) fa2 fc2) ∧ e 6 = .int .i64 ((20 : Int)) ∧ e 7 = .int .i64 (z3)) (fun Q' hQ => ?_) (fun bD uD hR => ?_)
 ·replace h := hx
  clear hx
  refine E_block ?_
  refine E_lp h (fun (s : (List Int) × Int × Int) e w => ∃ (g : Gh) , FrM iI gI wI g w ∧ e 0 = up0 ∧ OM 1 g w 3 (s.1 : List Int) up0 ∧ e 1 = .int .i64 (x1) ∧ e 2 = (.func (.func ff2) fa2 fc2) ∧ e 6 = .int .i64 ((20 : Int)) ∧ e 7 = .int .i64 (s.2.1) ∧ e 8 = .int .i64 (s.2.2)) ⟨g0, hfr, rfl, mp0, rfl, rfl, rfl, rfl, rfl⟩ (fun X9 k9 kC => ?_)
  rintro ⟨u3, o3, u0⟩ cD vD ⟨oB, hfr, j7, m7, i6, n7, o7, u7, v7⟩ h
  refine E_joinC h (fun (s : Unit) e w => ∃ (g : Gh) , FrM iI gI wI g w ∧ e 0 = up0 ∧ OM 1 g w 3 (u3 : List Int) up0 ∧ e 1 = .int .i64 (x1) ∧ e 2 = (.func (.func ff2) fa2 fc2) ∧ e 6 = .int .i64 ((20 : Int)) ∧ e 7 = .int .i64 (o3) ∧ e 8 = .int .i64 (u0)) (fun X12 dB xB h => ?_) ?_
  ·refine E_seq (E_region (EL_mv v7 rfl ?_))
   refine EL_mv i6 rfl ?_
   refine EL_in (.bool ((decide (u0 ≤ x1)))) rfl rfl rfl rfl ?_
   refine EL_nil (thn_n ?_)
   rcases csome h with ⟨d7, h⟩ | ⟨d7, h⟩
   ·refine E_ct d7 rfl ?_
    exact E_skip (thn_n (xB () _ _ ⟨oB, hfr, j7, m7, i6, n7, o7, u7, v7⟩ h))
   ·refine E_cf d7 rfl ?_
    refine E_exit ?_
    refine thn_e ?_
    refine thn_e ?_
    refine blk_hit ?_
    obtain ⟨rfl, rfl⟩ := pairs2 h
    exact hQ _ _ ⟨oB, hfr, j7, m7, i6, n7, o7, u7⟩
  ·rintro _ eD xD ⟨lC, hfr, c8, z9, bA, g8, i8, gA, j6⟩ h
   refine E_block ?_
   refine E_seq (E_region (EL_mv c8 rfl ?_))
   refine EL_mv gA rfl ?_
   refine EL_mv j6 rfl ?_
   refine EL_mv g8 rfl ?_
   obtain ⟨t9, yB, h⟩ := bsome h
   refine EL_do .plain rfl (D_callM (g := lC) (i := 1) (vs := [up0, .int .i64 (o3), .int .i64 (u0), (.func (.func ff2) fa2 fc2)]) en68 (.cons rfl (.cons rfl (.cons rfl (.cons rfl .nil)))) (wk68 z9 (FnV2.ch ⟨_, _, _, rfl, fen2, fcl2⟩ hfr.ch) yB) fun mC gD yD hs hr => ?_)
   obtain ⟨hrv, b15⟩ := hr
   have hfr := hfr.stp hs
   subst hrv
   refine EL_nil (thn_n (E_seq (E_region (EL_mv j6 rfl ?_))))
   refine EL_at (.int .i64 (u0)) rfl rfl ?_
   refine EL_nil (thn_n (E_region (EL_mv j6 rfl ?_)))
   refine EL_mv i8 rfl ?_
   refine EL_in (.int .i64 ((w64 (u0 + (20 : Int))))) rfl rfl rfl rfl ?_
   refine EL_at (.int .i64 ((w64 (u0 + (20 : Int))))) rfl rfl ?_
   exact EL_nil (blk_n (thn_n (kC (t9, u0, (w64 (u0 + (20 : Int)))) _ _ ⟨mC, hfr, c8, b15, bA, g8, i8, rfl, rfl⟩ h)))
 ·clear hx
  obtain ⟨qC, hfr, k8, iA, l8, m8, jA, lA⟩ := hR
  refine E_seq (E_region (EL_mv k8 rfl ?_))
  refine EL_mv lA rfl ?_
  refine EL_mv l8 rfl ?_
  refine EL_mv m8 rfl ?_
  obtain ⟨eB, zB, h⟩ := bsome h
  refine EL_do .plain rfl (D_callM (g := qC) (i := 1) (vs := [up0, .int .i64 (z3), .int .i64 (x1), (.func (.func ff2) fa2 fc2)]) en68 (.cons rfl (.cons rfl (.cons rfl (.cons rfl .nil)))) (wk68 iA (FnV2.ch ⟨_, _, _, rfl, fen2, fcl2⟩ hfr.ch) zB) fun rC iD zD hs hr => ?_)
  obtain ⟨hrv, b18⟩ := hr
  have hfr := hfr.stp hs
  subst hrv
  refine EL_nil (thn_n (E_block ?_))
  refine E_lp h (fun (s : (List Int) × Int) e w => ∃ (g : Gh) , FrM iI gI wI g w ∧ e 0 = up0 ∧ OM 1 g w 3 (s.1 : List Int) up0 ∧ e 1 = .int .i64 (x1) ∧ e 2 = (.func (.func ff2) fa2 fc2) ∧ e 6 = .int .i64 (s.2)) ⟨rC, hfr, k8, b18, l8, m8, jA⟩ (fun X20 iB aC => ?_)
  rintro ⟨z4, o0⟩ jD aE ⟨tC, hfr, mA, n8, o8, nA, q8⟩ h
  refine E_joinC h (fun (s : Unit) e w => ∃ (g : Gh) , FrM iI gI wI g w ∧ e 0 = up0 ∧ OM 1 g w 3 (z4 : List Int) up0 ∧ e 1 = .int .i64 (x1) ∧ e 2 = (.func (.func ff2) fa2 fc2) ∧ e 6 = .int .i64 (o0)) (fun X23 nB cC h => ?_) ?_
  ·refine E_seq (E_region (EL_mv q8 rfl ?_))
   refine EL_mv o8 rfl ?_
   refine EL_in (.bool ((decide (o0 < x1)))) rfl rfl rfl rfl ?_
   refine EL_nil (thn_n ?_)
   rcases csome h with ⟨e7, h⟩ | ⟨e7, h⟩
   ·refine E_ct e7 rfl ?_
    exact E_skip (thn_n (cC () _ _ ⟨tC, hfr, mA, n8, o8, nA, q8⟩ h))
   ·refine E_cf e7 rfl ?_
    refine E_exit ?_
    refine thn_e ?_
    refine thn_e ?_
    refine blk_hit ?_
    obtain rfl := sinj h
    exact end0n rfl rfl ⟨_, hfr, rfl, y9.back n8⟩
  ·rintro _ kD bE ⟨uC, hfr, oA, pA, qA, rA, r8⟩ h
   refine E_block ?_
   refine E_seq (E_region (EL_mv r8 rfl ?_))
   refine EL_in (.int .i64 ((w64 ((2 : Int) * o0)))) rfl rfl rfl rfl ?_
   refine EL_at (.int .i64 (0)) rfl rfl ?_
   refine EL_at (.int .i64 ((w64 ((2 : Int) * o0)))) rfl rfl ?_
   refine EL_nil (thn_n ?_)
   obtain ⟨⟨l5, i3⟩, hx, h⟩ := bsome h
   refine E_join (fun e w => ∃ (g : Gh) , FrM iI gI wI g w ∧ e 0 = up0 ∧ OM 1 g w 3 (l5 : List Int) up0 ∧ e 1 = .int .i64 (x1) ∧ e 2 = (.func (.func ff2) fa2 fc2) ∧ e 6 = .int .i64 (o0) ∧ e 7 = .int .i64 (i3)) (fun Q' hQ => ?_) (fun lD cE hR => ?_)
   ·replace h := hx
    clear hx
    refine E_block ?_
    refine E_lp h (fun (s : (List Int) × Int × Int) e w => ∃ (g : Gh) , FrM iI gI wI g w ∧ e 0 = up0 ∧ OM 1 g w 3 (s.1 : List Int) up0 ∧ e 1 = .int .i64 (x1) ∧ e 2 = (.func (.func ff2) fa2 fc2) ∧ e 6 = .int .i64 (o0) ∧ e 7 = .int .i64 (s.2.1) ∧ e 8 = .int .i64 (s.2.2)) ⟨uC, hfr, oA, pA, qA, rA, r8, rfl, rfl⟩ (fun X34 jB dC => ?_)
    rintro ⟨i5, j3, j1⟩ mD dE ⟨tB, hfr, t8, v8, v6, x8, y8, a9, d9⟩ h
    refine E_joinC h (fun (s : Unit) e w => ∃ (g : Gh) , FrM iI gI wI g w ∧ e 0 = up0 ∧ OM 1 g w 3 (i5 : List Int) up0 ∧ e 1 = .int .i64 (x1) ∧ e 2 = (.func (.func ff2) fa2 fc2) ∧ e 6 = .int .i64 (o0) ∧ e 7 = .int .i64 (j3) ∧ e 8 = .int .i64 (j1)) (fun X37 lB eC h => ?_) ?_
    ·refine E_seq (E_region (EL_mv d9 rfl ?_))
     refine EL_mv v6 rfl ?_
     refine EL_in (.bool ((decide (j1 ≤ x1)))) rfl rfl rfl rfl ?_
     refine EL_nil (thn_n ?_)
     rcases csome h with ⟨g7, h⟩ | ⟨g7, h⟩
     ·refine E_ct g7 rfl ?_
      exact E_skip (thn_n (eC () _ _ ⟨tB, hfr, t8, v8, v6, x8, y8, a9, d9⟩ h))
     ·refine E_cf g7 rfl ?_
      refine E_exit ?_
      refine thn_e ?_
      refine thn_e ?_
      refine blk_hit ?_
      obtain ⟨rfl, rfl⟩ := pairs2 h
      exact hQ _ _ ⟨tB, hfr, t8, v8, v6, x8, y8, a9⟩
    ·rintro _ nD eE ⟨vC, hfr, e9, uA, xA, i9, x6, l9, y6⟩ h
     refine E_block ?_
     refine E_seq (E_region (EL_mv e9 rfl ?_))
     refine EL_mv l9 rfl ?_
     refine EL_mv l9 rfl ?_
     refine EL_mv x6 rfl ?_
     refine EL_in (.int .i64 ((w64 (j3 + o0)))) rfl rfl rfl rfl ?_
     refine EL_mv y6 rfl ?_
     refine EL_mv i9 rfl ?_
     obtain ⟨u9, iC, h⟩ := bsome h
     refine EL_do .plain rfl (D_callM (g := vC) (i := 1) (vs := [up0, .int .i64 (j3), .int .i64 ((w64 (j3 + o0))), .int .i64 (j1), (.func (.func ff2) fa2 fc2)]) en69 (.cons rfl (.cons rfl (.cons rfl (.cons rfl (.cons rfl .nil))))) (wk69 big uA (FnV2.ch ⟨_, _, _, rfl, fen2, fcl2⟩ hfr.ch) iC) fun xC oD gE hs hr => ?_)
     obtain ⟨hrv, b40⟩ := hr
     have hfr := hfr.stp hs
     subst hrv
     refine EL_nil (thn_n (E_seq (E_region (EL_mv y6 rfl ?_))))
     refine EL_at (.int .i64 (j1)) rfl rfl ?_
     refine EL_nil (thn_n (E_region (EL_mv y6 rfl ?_)))
     refine EL_mv x6 rfl ?_
     refine EL_in (.int .i64 ((w64 ((2 : Int) * o0)))) rfl rfl rfl rfl ?_
     refine EL_p (.int .i64 ((w64 (j1 + (w64 ((2 : Int) * o0)))))) (P_int rfl rfl rfl) rfl ?_
     refine EL_p (.int .i64 ((w64 (j1 + (w64 ((2 : Int) * o0)))))) (P_assign rfl) rfl ?_
     exact EL_nil (blk_n (thn_n (dC (u9, j1, (w64 (j1 + (w64 ((2 : Int) * o0))))) _ _ ⟨xC, hfr, e9, b40, xA, i9, x6, rfl, rfl⟩ h)))
   ·clear hx
    obtain ⟨vB, hfr, a7, n9, t5, b7, c7, o9⟩ := hR
    obtain ⟨q5, hx, h⟩ := bsome h
    refine E_join (fun e w => ∃ (g : Gh) , FrM iI gI wI g w ∧ e 0 = up0 ∧ OM 1 g w 3 (q5 : List Int) up0 ∧ e 1 = .int .i64 (x1) ∧ e 2 = (.func (.func ff2) fa2 fc2) ∧ e 6 = .int .i64 (o0)) (fun Q' hQ => ?_) (fun sD iE hR => ?_)
    ·replace h := hx
     clear hx
     refine E_seq (E_region (EL_mv o9 rfl ?_))
     refine EL_mv c7 rfl ?_
     refine EL_in (.int .i64 ((w64 (i3 + o0)))) rfl rfl rfl rfl ?_
     refine EL_at (.int .i64 ((w64 (i3 + o0)))) rfl rfl ?_
     refine EL_nil (thn_n (E_seq (E_region (EL_mw (.int .i64 ((w64 (i3 + o0)))) rfl rfl ?_))))
     refine EL_mv t5 rfl ?_
     refine EL_in (.bool ((decide ((w64 (i3 + o0)) < x1)))) rfl rfl rfl rfl ?_
     refine EL_nil (thn_n ?_)
     rcases csome h with ⟨i7, h⟩ | ⟨i7, h⟩
     ·refine E_ct i7 rfl ?_
      refine E_region (EL_mv a7 rfl ?_)
      refine EL_mv o9 rfl ?_
      refine EL_mw (.int .i64 ((w64 (i3 + o0)))) rfl rfl ?_
      refine EL_mv t5 rfl ?_
      refine EL_mv b7 rfl ?_
      obtain ⟨mB, jC, h⟩ := bsome h
      refine EL_do .plain rfl (D_callM (g := vB) (i := 1) (vs := [up0, .int .i64 (i3), .int .i64 ((w64 (i3 + o0))), .int .i64 (x1), (.func (.func ff2) fa2 fc2)]) en69 (.cons rfl (.cons rfl (.cons rfl (.cons rfl (.cons rfl .nil))))) (wk69 big n9 (FnV2.ch ⟨_, _, _, rfl, fen2, fcl2⟩ hfr.ch) jC) fun yC tD jE hs hr => ?_)
      obtain ⟨hrv, b47⟩ := hr
      have hfr := hfr.stp hs
      subst hrv
      refine EL_nil ?_
      obtain rfl := sinj h
      exact hQ _ _ ⟨yC, hfr, a7, b47, t5, b7, c7⟩
     ·refine E_cf i7 rfl ?_
      refine E_skip ?_
      obtain rfl := sinj h
      exact hQ _ _ ⟨vB, hfr, a7, n9, t5, b7, c7⟩
    ·clear hx
     obtain ⟨aD, hfr, yA, zA, aB, bB, cB⟩ := hR
     refine E_region (EL_mv cB rfl ?_)
     refine EL_in (.int .i64 ((w64 (o0 * (2 : Int))))) rfl rfl rfl rfl ?_
     refine EL_at (.int .i64 ((w64 (o0 * (2 : Int))))) rfl rfl ?_
     exact EL_nil (blk_n (thn_n (aC (q5, (w64 (o0 * (2 : Int)))) _ _ ⟨aD, hfr, yA, zA, aB, bB, rfl⟩ h)))
def f45 (x0 : PayPayList) (x1 : PayPiece) : Option (Int) :=
 jn (σ := Unit) (fun _ =>
  some ((0 : Int))
  ) fun m7 =>
 Option.bind (α := Bool) (
  (f21 ((0 : Int)) ((50 : Int)) (([(x1).Weaver] : List Int))).bind fun l5 =>
  bif (!l5) then
   some ((!l5))
  else
   (f21 ((0 : Int)) ((1000 : Int)) (([(x1).Dense] : List Int))).bind fun q5 =>
   bif (!q5) then
    some ((!q5))
   else
    (f21 ((0 : Int)) ((1000000 : Int)) (([(x1).Picks] : List Int))).bind fun j1 =>
    bif (!j1) then
     some ((!j1))
    else
     (f21 ((0 : Int)) ((100 : Int)) (([(x1).Faults] : List Int))).bind fun i3 =>
     some ((!i3))
  ) fun u0 =>
 bif u0 then
  some ((2 : Int))
 else
  (f21 ((0 : Int)) ((w64 (((((x0).PayList).Extras).length : Int) - (1 : Int)))) ((x1).Extras)).bind fun j3 =>
  bif (!j3) then
   some ((7 : Int))
  else
   (f70 ((x1).Extras)).bind fun y125 =>
   bif (!y125) then
    some ((4 : Int))
   else
    m7 ()
def f50 (x0 : List Int) : Option ((List Int)) :=
 (f75 ((wu64 ((x0).length : Int)))).bind fun y2 =>
 (f74 big x0 ((0 : Int)) (((x0).length : Int)) y2).bind fun y4 =>
 some (y4)
def f22 (x0 : List Int) (x1 : Int → Int → Option Int) : Option ((List Int)) :=
 (f43 x0 (((x0).length : Int)) x1).bind fun y2 =>
 some (y2)
theorem en22 : Enters Try.prog 22 := enters_of Try.func22 (by kernel_rfl) rfl
theorem wk22 {iI : Nat} {gI : Gh} {wI : World} {x0 : List Int} {x1 : Int → Int → Option Int} {up0 : Value} (mp0 : OM iI gI wI 3 x0 up0) {up1 : Value} (rp1 : FnV2 Try.prog x1 up1 gI wI) {r : (List Int)} (h : f22 x0 x1 = some r) : FnM Try.prog 22 #[up0, up1] iI gI wI (fun g w v => v = .tuple #[] ∧ OM iI g w 3 r up0) := by
 unfold f22 at h
 refine fnM_of_E Try.func22 rfl (Nat.le_of_ble_eq_true rfl) fun g0 hm hfr => ?_
 have o0 := mp0
 replace mp0 := mp0.enter
 rw [← hm] at mp0
 replace hm : g0.m = gI.m := by rw [hm]
 obtain ⟨ff1, fa1, fc1, rfl, fen1, fcl1⟩ := rp1
 show E _ 9 none _ _ _ _ _
 refine E_region (EL_mw up0 rfl rfl ?_)
 refine EL_mw up0 rfl rfl ?_
 refine EL_p (.int .i64 ((x0).length : Int)) (P_lenM Try.underlying22 rfl mp0) rfl ?_
 refine EL_mw ((.func (.func ff1) fa1 fc1)) rfl rfl ?_
 obtain ⟨y2, hy2, h⟩ := bsome h
 refine EL_do .plain rfl (D_callM (g := g0) (i := 1) (vs := [up0, .int .i64 ((x0).length : Int), (.func (.func ff1) fa1 fc1)]) en43 (.cons rfl (.cons rfl (.cons rfl .nil))) (wk43 mp0 (FnV2.ch ⟨_, _, _, rfl, fen1, fcl1⟩ hfr.ch) hy2) fun g1 w1_ v1 hs hr => ?_)
 obtain ⟨hrv, b1⟩ := hr
 have hfr := hfr.stp hs
 subst hrv
 refine EL_nil ?_
 obtain rfl := sinj h
 exact end0n rfl rfl ⟨_, hfr, rfl, o0.back b1⟩
def f25 (x0 : PayList) (x1 : PayPiece) : Option (PayPayList × Int) :=
 jn (σ := PayPayList) (fun j6 =>
  (f45 ((⟨x0⟩ : PayPayList)) x1).bind fun u0 =>
  some ((⟨x0⟩ : PayPayList), u0)
  ) fun y6 =>
 (f29 x0).bind fun o0 =>
 bif (o0 != (0 : Int)) then
  some ((⟨x0⟩ : PayPayList), o0)
 else
  y6 ((⟨⟨[], [], 0, 0⟩⟩ : PayPayList))
def f32 (x0 : PayTable) : Option (PaySheet × Int) :=
 (f39 x0).bind fun y5 =>
 Option.bind (α := Int) (
  Option.bind (α := Bool) (
   bif (y5.2 == (0 : Int)) then
    (f52 (y5.1)).bind fun u3 =>
    some ((decide (((u3).length : Int) > (0 : Int))))
   else
    some (false)
   ) fun j3 =>
  bif j3 then
   some ((7 : Int))
  else
   some (y5.2)
  ) fun o3 =>
 some (y5.1, o3)
def f7 (x0 : Int) (x1 : List Int) : Option ((List Int) × Int) :=
 Option.bind (α := Int) (
  lp (σ := Int × Int) (fun nG (n7, i3) =>
   bif (decide (i3 < ((x1).length : Int))) then
    Option.bind (α := Int) (
     (idx x1 i3).bind fun n8 =>
     some ((w64 (n7 + (min64 (max64 n8 (0 : Int)) (1000 : Int)))))
     ) fun o8 =>
    nG (o8, (w64 (i3 + (1 : Int))))
   else
    some (n7)
   ) big ((0 : Int), (0 : Int))
  ) fun o3 =>
 jn (σ := (List Int)) (fun cC =>
  (mks 8 (0 : Int) (((x1).length : Int))).bind fun cB =>
  Option.bind (α := (List Int) × Int × (List Int)) (
   lp (σ := (List Int) × Int × (List Int) × Int) (fun nD (a9, a7, i7, o0) =>
    bif (decide (o0 < ((x1).length : Int))) then
     Option.bind (α := (List Int) × Int × (List Int)) (
      (idx x1 o0).bind fun d9 =>
      (quo64 (w64 (x0 * d9)) o3).bind fun y158 =>
      (apnd 8 a9 (([y158] : List Int))).bind fun y161 =>
      (idx i7 o0).bind fun tG =>
      (idx y161 o0).bind fun mA =>
      some (y161, (w64 (a7 - mA)), (List.set i7 (Int.toNat o0) o0))
      ) fun (o7, u7, j7) =>
     nD (o7, u7, j7, (w64 (o0 + (1 : Int))))
    else
     some (a9, a7, i7)
    ) big (cC, x0, cB, (0 : Int))
   ) fun (e9, u3, i8) =>
  (f22 i8 ((fun a0 a1 => f23 a0 a1 x0 x1 o3))).bind fun oD =>
  Option.bind (α := (List Int)) (
   (cut oD 0 u3).bind fun y6 =>
   lp (σ := (List Int) × Int) (fun sD (b7, u0) =>
    bif (decide (u0 < ((y6).length : Int))) then
     Option.bind (α := (List Int)) (
      (idx y6 u0).bind fun c7 =>
      (idx b7 c7).bind fun nA =>
      (idx b7 c7).bind fun uG =>
      some ((List.set b7 (Int.toNat c7) ((w64 (nA + (1 : Int))))))
      ) fun v7 =>
     sD (v7, (w64 (u0 + (1 : Int))))
    else
     some (b7)
    ) big (e9, (0 : Int))
   ) fun i9 =>
  some (i9, (0 : Int))
  ) fun oG =>
 (f21 ((0 : Int)) ((1000000000 : Int)) (([x0] : List Int))).bind fun dC =>
 bif (!dC) then
  some (([] : List Int), (3 : Int))
 else
  bif (decide (((x1).length : Int) > (10 : Int))) then
   some (([] : List Int), (5 : Int))
  else
   Option.bind (α := Bool) (
    (f21 ((0 : Int)) ((1000 : Int)) x1).bind fun dB =>
    bif (!dB) then
     some ((!dB))
    else
     some ((o3 == (0 : Int)))
    ) fun d7 =>
   bif d7 then
    some (([] : List Int), (2 : Int))
   else
    oG (([] : List Int))
theorem en7 : Enters Try.prog 7 := enters_of Try.func7 (by kernel_rfl) rfl
theorem wk7 {gI : Gh} {wI : World} {x0 : Int} {x1 : List Int} {up1 : Value} (rp1 : RV gI.m wI x1 up1) {r : (List Int) × Int} (h : f7 x0 x1 = some r) : Fn Try.prog 7 #[.int .i64 (x0), up1] gI wI (fun m w v => ∃ y0 y1, v = .tuple #[y0, y1] ∧ RV m w (r.1) y0 ∧ y1 = .int .i64 (r.2)) := by
 unfold f7 at h
 refine fn_of_E Try.func7 rfl (Nat.le_of_ble_eq_true rfl) fun g0 hm hfr => ?_
 have rp1 : RV g0.m wI x1 up1 := hm ▸ rp1
 show E _ 91 none _ _ _ _ _
 refine E_seq (E_region (EL_do .plain rfl (D_box (g := g0) rfl (RV_int.2 rfl) fun g1 w1 p1 hs q1 => ?_)))
 have hfr := hfr.ext hs
 have rp1 := rp1.ext hs
 refine EL_do .plain rfl (D_box (g := g1) rfl rp1 fun g2 w2 p2 hs q2 => ?_)
 have hfr := hfr.ext hs
 have q1 := q1.ext hs
 refine EL_at (.slice none 0 0) rfl rfl ?_
 have b3 : OA 4004 g2 w2 3 ([] : List Int) (.slice none 0 0) := OA.nil
 refine EL_at (.int .i64 (0)) rfl rfl ?_
 refine EL_nil (thn_n (E_seq (E_region (EL_do .plain rfl (D_allocOc (g := g2) 2006 (0 : Int) Try.zeroValue3 (fun m w => ⟨_, rep_int, rfl⟩) fun g4 w4 p4 hs b4 cb => ?_)))))
 have hfr := hfr.stp hs
 have q1 := q1.stp hs
 have q2 := q2.stp hs
 have b3 := b3.stp hs rfl
 clear cb
 refine EL_do .plain rfl (D_storeOc (g := g4) (v := .int .i64 (0)) Try.sizeOf3 rfl b4 rfl (RV_int.2 rfl) fun g5 w5 hs b5 cb => ?_)
 clear cb
 have hfr := hfr.stp hs
 have q1 := q1.stp hs
 have q2 := q2.stp hs
 have b3 := b3.stp hs rfl
 refine EL_nil (thn_n ?_)
 obtain ⟨o3, hx, h⟩ := bsome h
 refine E_join (fun e w => ∃ (g : Gh) , Fr gI wI g w ∧ e 2 = p1 ∧ PT g.m w (x0 : Int) p1 ∧ e 3 = p2 ∧ PT g.m w (x1 : List Int) p2 ∧ e 4 = .slice none 0 0 ∧ OA 4004 g w 3 (([] : List Int) : List Int) (Value.slice none 0 0) ∧ e 6 = p4 ∧ OB 2006 g w 3 (o3 : Int) p4) (fun Q' hQ => ?_) (fun bJ lK hR => ?_)
 ·replace h := hx
  clear hx
  refine E_seq (E_region (EL_do .plain rfl (D_load (g := g5) Try.isAgg22 Try.sizeOf22 rfl q2 fun eB pG => ?_)))
  refine EL_p (.int .i64 ((x1).length : Int)) (P_len Try.underlying22 rfl pG) rfl ?_
  refine EL_mw (.int .i64 (0)) rfl rfl ?_
  refine EL_nil (thn_n (E_block ?_))
  refine E_lp h (fun (s : Int × Int) e w => ∃ (g : Gh) , Fr gI wI g w ∧ e 2 = p1 ∧ PT g.m w (x0 : Int) p1 ∧ e 3 = p2 ∧ PT g.m w (x1 : List Int) p2 ∧ e 4 = .slice none 0 0 ∧ OA 4004 g w 3 (([] : List Int) : List Int) (Value.slice none 0 0) ∧ e 6 = p4 ∧ OB 2006 g w 3 (s.1 : Int) p4 ∧ e 15 = eB ∧ RV g.m w (x1 : List Int) eB ∧ e 16 = .int .i64 (((x1).length : Int)) ∧ e 17 = .int .i64 (s.2)) ⟨g5, hfr, rfl, q1, rfl, q2, rfl, b3, rfl, b5, rfl, pG, rfl, rfl⟩ (fun X22 nG vG => ?_)
  rintro ⟨n7, i3⟩ cJ mK ⟨eC, hfr, iC, q8, jC, r8, kC, t8, v8, oA, iB, e7, jB, k9⟩ h
  refine E_seq (E_region (EL_in (.bool ((decide (i3 < ((x1).length : Int))))) k9 jB rfl rfl ?_))
  refine EL_nil (thn_n (E_seq ?_))
  rcases csome h with ⟨vB, h⟩ | ⟨vB, h⟩
  ·refine E_ct vB rfl ?_
   refine E_skip (thn_n ?_)
   obtain ⟨o8, hx, h⟩ := bsome h
   refine E_join (fun e w => ∃ (g : Gh) , Fr gI wI g w ∧ e 2 = p1 ∧ PT g.m w (x0 : Int) p1 ∧ e 3 = p2 ∧ PT g.m w (x1 : List Int) p2 ∧ e 4 = .slice none 0 0 ∧ OA 4004 g w 3 (([] : List Int) : List Int) (Value.slice none 0 0) ∧ e 6 = p4 ∧ OB 2006 g w 3 (o8 : Int) p4 ∧ e 15 = eB ∧ RV g.m w (x1 : List Int) eB ∧ e 16 = .int .i64 (((x1).length : Int)) ∧ e 17 = .int .i64 (i3)) (fun Q' hQ => ?_) (fun dJ nK hR => ?_)
   ·replace h := hx
    clear hx
    refine E_block ?_
    refine E_seq (E_region ?_)
    obtain ⟨n8, tD, h⟩ := bsome h
    refine EL_p (ePtr eB i3 1) (P_indexAddr (α := Int) Try.underlying22 Try.sizeOf3 iB e7 k9 tD) rfl ?_
    have vH := PT_idx e7 tD
    refine EL_do .plain rfl (D_load (g := eC) Try.isAgg3 Try.sizeOf3 rfl vH fun oK xH => ?_)
    obtain rfl := RV_int.1 xH
    refine EL_at (.int .i64 (n8)) rfl rfl ?_
    refine EL_nil (thn_n (E_region (EL_do .plain rfl (D_loadO (g := eC) Try.isAgg3 Try.sizeOf3 v8 oA fun pK yH => ?_))))
    obtain rfl := RV_int.1 yH
    refine EL_mw (.int .i64 (n8)) rfl rfl ?_
    refine EL_p (.int .i64 (max64 n8 (0 : Int))) (P_max rfl rfl) rfl ?_
    refine EL_p (.int .i64 (min64 (max64 n8 (0 : Int)) (1000 : Int))) (P_min rfl rfl) rfl ?_
    refine EL_p (.int .i64 ((w64 (n7 + (min64 (max64 n8 (0 : Int)) (1000 : Int)))))) (P_int rfl rfl rfl) rfl ?_
    refine EL_do .plain rfl (D_storeOc (g := eC) (v := .int .i64 ((w64 (n7 + (min64 (max64 n8 (0 : Int)) (1000 : Int)))))) Try.sizeOf3 v8 oA rfl (RV_int.2 rfl) fun zH qK hs b34 cb => ?_)
    clear cb
    have hfr := hfr.stp hs
    have q8 := q8.stp hs
    have r8 := r8.stp hs
    have t8 := t8.stp hs rfl
    have e7 := e7.stp hs
    refine EL_nil (blk_n ?_)
    obtain rfl := sinj h
    exact hQ _ _ ⟨zH, hfr, iC, q8, jC, r8, kC, t8, v8, b34, iB, e7, jB, k9⟩
   ·clear hx
    obtain ⟨aI, hfr, nF, oF, pF, qF, rF, sF, tF, uF, uD, vD, xD, yD⟩ := hR
    refine E_region (EL_in (.int .i64 ((w64 (i3 + (1 : Int))))) yD rfl rfl rfl ?_)
    refine EL_mw (.int .i64 ((w64 (i3 + (1 : Int))))) rfl rfl ?_
    exact EL_nil (thn_n (vG (o8, (w64 (i3 + (1 : Int)))) _ _ ⟨aI, hfr, nF, oF, pF, qF, rF, sF, tF, uF, uD, vD, xD, rfl⟩ h))
  ·refine E_cf vB rfl ?_
   refine E_exit ?_
   refine thn_e ?_
   refine thn_e ?_
   refine blk_hit ?_
   obtain rfl := sinj h
   exact hQ _ _ ⟨eC, hfr, iC, q8, jC, r8, kC, t8, v8, oA⟩
 ·clear hx
  obtain ⟨qG, hfr, pA, x5, x8, l5, lC, v6, qA, i6⟩ := hR
  refine E_joinC h (fun (s : (List Int)) e w => ∃ (g : Gh) (v4 : Value), Fr gI wI g w ∧ e 2 = p1 ∧ PT g.m w (x0 : Int) p1 ∧ e 3 = p2 ∧ PT g.m w (x1 : List Int) p2 ∧ e 4 = v4 ∧ OA 4004 g w 3 (s : List Int) v4 ∧ e 6 = p4 ∧ OB 2006 g w 3 (o3 : Int) p4) (fun X62 oG xG h => ?_) ?_
  ·refine E_block ?_
   refine E_seq (E_region (EL_do .plain rfl (D_load (g := qG) Try.isAgg3 Try.sizeOf3 pA x5 fun sK bI => ?_)))
   obtain rfl := RV_int.1 bI
   refine EL_do .plain rfl (D_buildSlice (g := qG) 3029 (xs := ([x0] : List Int)) (vs := [.int .i64 (x0)]) Try.underlying22 Try.sizeOf3 Try.zeroValue3 rfl rfl (.cons rfl .nil) (RVs.cons (RV_int.2 rfl) RVs.nil) rfl rfl fun cI tK dI hs o65 iI hxt hfl => ?_)
   have hfr := hfr.stp hs
   have x5 := x5.stp hs
   have l5 := l5.stp hs
   have v6 := v6.stp hs rfl
   have i6 := i6.stp hs rfl
   obtain ⟨dC, yG, h⟩ := bsome h
   refine EL_do .plain rfl (D_call (g := cI) (vs := [.int .i64 (0), .int .i64 (1000000000), dI]) en21 (.cons rfl (.cons rfl (.cons rfl .nil))) (wk21 iI yG) fun lB zD uK hs hr => ?_)
   have hfr := hfr.ext hs
   have x5 := x5.ext hs
   have l5 := l5.ext hs
   have v6 := v6.ext hs
   have i6 := i6.ext hs
   subst hr
   refine EL_p (.bool (!dC)) (P_not rfl) rfl ?_
   refine EL_at (.bool (!dC)) rfl rfl ?_
   refine EL_nil (thn_n ?_)
   rcases csome h with ⟨xB, h⟩ | ⟨xB, h⟩
   ·refine E_ct xB rfl ?_
    refine E_seq (E_region (EL_at (.slice none 0 0) rfl rfl ?_))
    have b69 : OA 4004 lB zD 3 ([] : List Int) (.slice none 0 0) := OA.nil
    refine EL_at (.int .i64 (3)) rfl rfl ?_
    refine EL_nil (thn_n (E_ret (blk_r ?_)))
    refine thn_r ?_
    obtain ⟨gp70, hs, rp70⟩ := OM.pub (b69.toM)
    have hfr := hfr.stp hs
    obtain rfl := sinj h
    exact end2 rfl rfl (show _ = .slice none 0 0 from rfl) (show _ = .int .i64 (3) from rfl) ⟨_, hfr, _, _, rfl, rp70, rfl⟩
   ·refine E_cf xB rfl ?_
    refine E_seq (E_region (EL_do .plain rfl (D_load (g := lB) Try.isAgg22 Try.sizeOf22 x8 l5 fun vK jI => ?_)))
    refine EL_p (.int .i64 ((x1).length : Int)) (P_len Try.underlying22 rfl jI) rfl ?_
    refine EL_in (.bool ((decide (((x1).length : Int) > (10 : Int))))) rfl rfl rfl rfl ?_
    refine EL_at (.bool ((decide (((x1).length : Int) > (10 : Int))))) rfl rfl ?_
    refine EL_nil (thn_n ?_)
    rcases csome h with ⟨yB, h⟩ | ⟨yB, h⟩
    ·refine E_ct yB rfl ?_
     refine E_seq (E_region (EL_at (.slice none 0 0) rfl rfl ?_))
     have b73 : OA 4004 lB zD 3 ([] : List Int) (.slice none 0 0) := OA.nil
     refine EL_at (.int .i64 (5)) rfl rfl ?_
     refine EL_nil (thn_n (E_ret (blk_r ?_)))
     refine thn_r ?_
     obtain ⟨gp74, hs, rp74⟩ := OM.pub (b73.toM)
     have hfr := hfr.stp hs
     obtain rfl := sinj h
     exact end2 rfl rfl (show _ = .slice none 0 0 from rfl) (show _ = .int .i64 (5) from rfl) ⟨_, hfr, _, _, rfl, rp74, rfl⟩
    ·refine E_cf yB rfl ?_
     obtain ⟨d7, hx, h⟩ := bsome h
     refine E_join (fun e w => ∃ (g : Gh) , Fr gI wI g w ∧ e 2 = p1 ∧ PT g.m w (x0 : Int) p1 ∧ e 3 = p2 ∧ PT g.m w (x1 : List Int) p2 ∧ e 4 = .slice none 0 0 ∧ OA 4004 g w 3 (([] : List Int) : List Int) (Value.slice none 0 0) ∧ e 6 = p4 ∧ OB 2006 g w 3 (o3 : Int) p4 ∧ e 36 = .bool (d7)) (fun Q' hQ => ?_) (fun eJ kI hR => ?_)
     ·replace h := hx
      clear hx
      refine E_seq (E_region (EL_do .plain rfl (D_load (g := lB) Try.isAgg22 Try.sizeOf22 x8 l5 fun lI mI => ?_)))
      obtain ⟨dB, zG, h⟩ := bsome h
      refine EL_do .plain rfl (D_call (g := lB) (vs := [.int .i64 (0), .int .i64 (1000), lI]) en21 (.cons rfl (.cons rfl (.cons rfl .nil))) (wk21 mI zG) fun aE gJ xK hs hr => ?_)
      have hfr := hfr.ext hs
      have x5 := x5.ext hs
      have l5 := l5.ext hs
      have v6 := v6.ext hs
      have i6 := i6.ext hs
      subst hr
      refine EL_p (.bool (!dB)) (P_not rfl) rfl ?_
      refine EL_at (.bool (!dB)) rfl rfl ?_
      refine EL_nil (thn_n ?_)
      rcases csome h with ⟨zB, h⟩ | ⟨zB, h⟩
      ·refine E_ct zB rfl ?_
       refine E_skip ?_
       obtain rfl := sinj h
       exact hQ _ _ ⟨aE, hfr, pA, x5, x8, l5, lC, v6, qA, i6, rfl⟩
      ·refine E_cf zB rfl ?_
       refine E_region (EL_do .plain rfl (D_loadO (g := aE) Try.isAgg3 Try.sizeOf3 qA i6 fun yK nI => ?_))
       obtain rfl := RV_int.1 nI
       refine EL_in (.bool ((o3 == (0 : Int)))) rfl rfl rfl rfl ?_
       refine EL_at (.bool ((o3 == (0 : Int)))) rfl rfl ?_
       refine EL_nil ?_
       obtain rfl := sinj h
       exact hQ _ _ ⟨aE, hfr, pA, x5, x8, l5, lC, v6, qA, i6, rfl⟩
     ·clear hx
      obtain ⟨rG, hfr, vF, xF, yF, zF, aG, bG, cG, dG, mB⟩ := hR
      rcases csome h with ⟨aC, h⟩ | ⟨aC, h⟩
      ·refine E_cond_true (Eq.trans (show ev _ _ = .bool (d7) from mB) (congrArg Value.bool aC)) ?_
       refine E_seq (E_region (EL_at (.slice none 0 0) rfl rfl ?_))
       have b87 : OA 4004 rG kI 3 ([] : List Int) (.slice none 0 0) := OA.nil
       refine EL_at (.int .i64 (2)) rfl rfl ?_
       refine EL_nil (thn_n (E_ret (blk_r ?_)))
       refine thn_r ?_
       obtain ⟨gp88, hs, rp88⟩ := OM.pub (b87.toM)
       have hfr := hfr.stp hs
       obtain rfl := sinj h
       exact end2 rfl rfl (show _ = .slice none 0 0 from rfl) (show _ = .int .i64 (2) from rfl) ⟨_, hfr, _, _, rfl, rp88, rfl⟩
      ·refine E_cond_false (Eq.trans (show ev _ _ = .bool (d7) from mB) (congrArg Value.bool aC)) ?_
       exact E_skip (blk_n (thn_n (xG (([] : List Int)) _ _ ⟨rG, (.slice none 0 0), hfr, vF, xF, yF, zF, aG, bG, cG, dG⟩ h)))
  ·rintro cC iJ zK ⟨pI, eG, hfr, mC, y8, rA, c8, gG, uA, hG, xA⟩ h
   refine E_seq (L_load (x := .tmp 2) Try.isAgg3 Try.sizeOf3 y8 fun aL qI aH => ?_)
   obtain rfl := RV_int.1 qI
   refine L_load (x := .tmp 3) Try.isAgg22 Try.sizeOf22 c8 fun rI sI bH => ?_
   obtain ⟨cB, cH, h⟩ := bsome h
   refine E_drawL (g := pI) (n := 6) [(3, (fun v g w => OM 9045 g w 3 cB v))] [0, 1, 2, 3, 4, 5] rfl mixed (by kernel_rfl) (⟨fun _ => up_om, trivial⟩) ?_
   refine L_ld (c := .int .i64 (x0)) rfl rfl .plain (fun _ _ h => h.ch) aH mC ?_
   refine L_ld (c := rI) rfl rfl .plain (fun _ _ h => h.ch) bH rA ?_
   refine L_p (.int .i64 ((x1).length : Int)) rfl rfl (P_len Try.underlying22 rfl sI) ?_
   refine L_do (φ := fun v g w => OM 9045 g w 3 cB v) rfl rfl .plain (fun g w hd => D_makeSliceX (g := g) 9045 (0 : Int) rfl Try.underlying22 info_3 rfl (fun _ _ => rfl) rfl rfl cH fun g' w' v hs b => ⟨g', hs, b⟩) (fun t5 hv => ?_)
   clear hv
   refine L_p (.int .i64 (x0)) rfl rfl (P_assign rfl) ?_
   refine L_p t5 rfl rfl (P_assign rfl) ?_
   refine L_nil fun sG bL hall => ?_
   have hs := hall.1
   have hfr := hfr.ext hs
   have y8 := y8.ext hs
   have c8 := c8.ext hs
   have uA := uA.ext hs
   have xA := xA.ext hs
   have b104 := (word_all (A := fun g w => OM 9045 g w 3 cB t5) 3 rfl hall)
   clear hs hall
   refine EL_nil (thn_n ?_)
   obtain ⟨⟨e9, u3, i8⟩, hx, h⟩ := bsome h
   refine E_join (fun e w => ∃ (g : Gh) (v4 : Value), Fr gI wI g w ∧ e 2 = p1 ∧ PT g.m w (x0 : Int) p1 ∧ e 3 = p2 ∧ PT g.m w (x1 : List Int) p2 ∧ e 4 = v4 ∧ OA 4004 g w 3 (e9 : List Int) v4 ∧ e 6 = p4 ∧ OB 2006 g w 3 (o3 : Int) p4 ∧ e 9 = .int .i64 (u3) ∧ e 10 = t5 ∧ OM 9045 g w 3 (i8 : List Int) t5) (fun Q' hQ => ?_) (fun tI jJ hR => ?_)
   ·replace h := hx
    clear hx
    refine E_seq (E_region (EL_do .plain rfl (D_load (g := sG) Try.isAgg22 Try.sizeOf22 rA c8 fun l9 bE => ?_)))
    refine EL_p (.int .i64 ((x1).length : Int)) (P_len Try.underlying22 rfl bE) rfl ?_
    refine EL_mw (.int .i64 (0)) rfl rfl ?_
    refine EL_nil (thn_n (E_block ?_))
    refine E_lp h (fun (s : (List Int) × Int × (List Int) × Int) e w => ∃ (g : Gh) (v4 : Value), Fr gI wI g w ∧ e 2 = p1 ∧ PT g.m w (x0 : Int) p1 ∧ e 3 = p2 ∧ PT g.m w (x1 : List Int) p2 ∧ e 4 = v4 ∧ OA 4004 g w 3 (s.1 : List Int) v4 ∧ e 6 = p4 ∧ OB 2006 g w 3 (o3 : Int) p4 ∧ e 9 = .int .i64 (s.2.1) ∧ e 10 = t5 ∧ OM 9045 g w 3 (s.2.2.1 : List Int) t5 ∧ e 46 = l9 ∧ RV g.m w (x1 : List Int) l9 ∧ e 47 = .int .i64 (((x1).length : Int)) ∧ e 48 = .int .i64 (s.2.2.2)) ⟨sG, (eG), hfr, mC, y8, rA, c8, gG, uA, hG, xA, rfl, rfl, b104, rfl, bE, rfl, rfl⟩ (fun X137 nD iG => ?_)
    rintro ⟨a9, a7, i7, o0⟩ uI kJ ⟨n9, cE, hfr, o9, z3, nB, q5, oB, g8, t9, z4, tB, k8, i5, bA, j1, gA, m7⟩ h
    refine E_seq (E_region (EL_in (.bool ((decide (o0 < ((x1).length : Int))))) m7 gA rfl rfl ?_))
    refine EL_nil (thn_n (E_seq ?_))
    rcases csome h with ⟨yA, h⟩ | ⟨yA, h⟩
    ·refine E_ct yA rfl ?_
     refine E_skip (thn_n ?_)
     obtain ⟨⟨o7, u7, j7⟩, hx, h⟩ := bsome h
     refine E_join (fun e w => ∃ (g : Gh) (v4 : Value), Fr gI wI g w ∧ e 2 = p1 ∧ PT g.m w (x0 : Int) p1 ∧ e 3 = p2 ∧ PT g.m w (x1 : List Int) p2 ∧ e 4 = v4 ∧ OA 4004 g w 3 (o7 : List Int) v4 ∧ e 6 = p4 ∧ OB 2006 g w 3 (o3 : Int) p4 ∧ e 9 = .int .i64 (u7) ∧ e 10 = t5 ∧ OM 9045 g w 3 (j7 : List Int) t5 ∧ e 46 = l9 ∧ RV g.m w (x1 : List Int) l9 ∧ e 47 = .int .i64 (((x1).length : Int)) ∧ e 48 = .int .i64 (o0)) (fun Q' hQ => ?_) (fun vI lJ hR => ?_)
     ·replace h := hx
      clear hx
      refine E_block ?_
      refine E_seq (E_region (EL_mv m7 rfl ?_))
      obtain ⟨d9, qC, h⟩ := bsome h
      refine EL_p (ePtr l9 o0 1) (P_indexAddr (α := Int) Try.underlying22 Try.sizeOf3 bA j1 m7 qC) rfl ?_
      have dH := PT_idx j1 qC
      refine EL_do .plain rfl (D_load (g := n9) Try.isAgg3 Try.sizeOf3 rfl dH fun mJ gH => ?_)
      obtain rfl := RV_int.1 gH
      refine EL_at (.int .i64 (o0)) rfl rfl ?_
      refine EL_at (.int .i64 (d9)) rfl rfl ?_
      refine EL_nil (thn_n (E_seq (E_region (EL_mv k8 rfl ?_))))
      refine EL_mw (.int .i64 (o0)) rfl rfl ?_
      refine EL_mv oB rfl ?_
      refine EL_do .plain rfl (D_load (g := n9) Try.isAgg3 Try.sizeOf3 o9 z3 fun nJ iH => ?_)
      obtain rfl := RV_int.1 iH
      refine EL_mw (.int .i64 (d9)) rfl rfl ?_
      refine EL_in (.int .i64 ((w64 (x0 * d9)))) rfl rfl rfl rfl ?_
      refine EL_do .plain rfl (D_loadO (g := n9) Try.isAgg3 Try.sizeOf3 t9 z4 fun oJ jH => ?_)
      obtain rfl := RV_int.1 jH
      obtain ⟨y158, jG, h⟩ := bsome h
      refine EL_p (.int .i64 (y158)) (P_int rfl rfl (congrArg (Option.map (Value.int .i64)) jG)) rfl ?_
      refine EL_do .plain rfl (D_buildSlice (g := n9) 3061 (xs := ([y158] : List Int)) (vs := [.int .i64 (y158)]) Try.underlying22 Try.sizeOf3 Try.zeroValue3 rfl rfl (.cons rfl .nil) (RVs.cons (RV_int.2 rfl) RVs.nil) rfl rfl fun kH pJ qJ hs o159 lH hxt hfl => ?_)
      have hfr := hfr.stp hs
      have z3 := z3.stp hs
      have q5 := q5.stp hs
      have g8 := g8.stp hs rfl
      have z4 := z4.stp hs rfl
      have i5 := i5.stp hs rfl
      have j1 := j1.stp hs
      obtain ⟨y161, kG, h⟩ := bsome h
      refine EL_do .plain rfl (D_appendA (g := kH) plain_int (i := 4004) Try.underlying22 info_3 rfl rfl g8 rfl lH kG fun mH rJ zA hs b160 => ?_)
      have hfr := hfr.stp hs
      have z3 := z3.stp hs
      have q5 := q5.stp hs
      have z4 := z4.stp hs rfl
      have i5 := i5.stp hs rfl
      have j1 := j1.stp hs
      refine EL_mw (.int .i64 (o0)) rfl rfl ?_
      refine EL_at zA rfl rfl ?_
      obtain ⟨tG, rC, h⟩ := bsome h
      refine EL_p (ePtr t5 o0 1) (P_indexAddrM (α := Int) Try.underlying22 Try.sizeOf3 rfl i5 rfl rC) rfl ?_
      refine EL_do .plain rfl (D_storeM (g := mH) (α := Int) (a' := o0) Try.sizeOf3 rfl i5 rC rfl (RV_int.2 rfl) fun dE sJ hs b163 => ?_)
      have hfr := hfr.stp hs
      have z3 := z3.stp hs
      have q5 := q5.stp hs
      have b160 := b160.stp hs rfl
      have z4 := z4.stp hs rfl
      have j1 := j1.stp hs
      refine EL_nil (thn_n (E_region (EL_mv tB rfl ?_)))
      refine EL_mw zA rfl rfl ?_
      refine EL_mw (.int .i64 (o0)) rfl rfl ?_
      obtain ⟨mA, tC, h⟩ := bsome h
      refine EL_p (ePtr zA o0 1) (P_indexAddrM (α := Int) Try.underlying22 Try.sizeOf3 rfl (b160.toM) rfl tC) rfl ?_
      refine EL_do .plain rfl (D_loadM (g := dE) Try.isAgg3 Try.sizeOf3 rfl (b160.toM) tC fun tJ nH => ?_)
      obtain rfl := RV_int.1 nH
      refine EL_in (.int .i64 ((w64 (a7 - mA)))) rfl rfl rfl rfl ?_
      refine EL_at (.int .i64 ((w64 (a7 - mA)))) rfl rfl ?_
      refine EL_nil (blk_n ?_)
      obtain ⟨rfl, rfl, rfl⟩ := pairs3 h
      exact hQ _ _ ⟨dE, (zA), hfr, o9, z3, nB, q5, rfl, b160, t9, z4, rfl, k8, b163, bA, j1, gA, m7⟩
     ·clear hx
      obtain ⟨oH, eE, hfr, gE, iE, jE, kE, lE, mE, nE, oE, rE, aD, bD, cD, eD, gD, iD⟩ := hR
      refine E_region (EL_in (.int .i64 ((w64 (o0 + (1 : Int))))) iD rfl rfl rfl ?_)
      refine EL_mw (.int .i64 ((w64 (o0 + (1 : Int))))) rfl rfl ?_
      exact EL_nil (thn_n (iG (o7, u7, j7, (w64 (o0 + (1 : Int)))) _ _ ⟨oH, (eE), hfr, gE, iE, jE, kE, lE, mE, nE, oE, rE, aD, bD, cD, eD, gD, rfl⟩ h))
    ·refine E_cf yA rfl ?_
     refine E_exit ?_
     refine thn_e ?_
     refine thn_e ?_
     refine blk_hit ?_
     obtain ⟨rfl, rfl, rfl⟩ := pairs3 h
     exact hQ _ _ ⟨n9, (cE), hfr, o9, z3, nB, q5, oB, g8, t9, z4, tB, k8, i5⟩
   ·clear hx
    obtain ⟨uJ, j3, hfr, sE, u9, tE, y9, uE, j6, vE, xE, yE, iA, l8⟩ := hR
    refine E_seq (E_region (EL_mv iA rfl ?_))
    obtain ⟨gp168, hs, rp168⟩ := OB.pub xE
    have hfr := hfr.stp hs
    have u9 := u9.stp hs
    have y9 := y9.stp hs
    have j6 := j6.stp hs rfl
    have l8 := l8.stp hs rfl
    refine EL_p ((.func (.func 23) #[] #[p1, p2, p4])) (P_makeFunc (capf_0_3 (show ev _ _ = p1 from sE) (show ev _ _ = p2 from tE) (show ev _ _ = p4 from vE))) rfl ?_
    obtain ⟨oD, lG, h⟩ := bsome h
    refine EL_do .plain rfl (D_callM (g := gp168) (i := 9045) (vs := [t5, (.func (.func 23) #[] #[p1, p2, p4])]) en22 (.cons rfl (.cons rfl .nil)) (wk22 l8 ⟨23, #[], #[p1, p2, p4], rfl, en23, fun g' w' hch a0 a1 b0 b1 r hu0 hu1 hr => by obtain rfl := RV_int.1 hu0; obtain rfl := RV_int.1 hu1; exact Fn.mono (wk23  (u9.ch hch) (y9.ch hch) (rp168.ch hch) hr) fun _ _ _ h => RV_int.2 h⟩ lG) fun vJ xI xJ hs hr => ?_)
    obtain ⟨hrv, b169⟩ := hr
    have hfr := hfr.stp hs
    have j6 := j6.stp hs rfl
    subst hrv
    refine EL_nil (thn_n ?_)
    obtain ⟨i9, hx, h⟩ := bsome h
    refine E_join (fun e w => ∃ (g : Gh) , Fr gI wI g w ∧ e 4 = j3 ∧ OA 4004 g w 3 (i9 : List Int) j3) (fun Q' hQ => ?_) (fun yI yJ hR => ?_)
    ·replace h := hx
     clear hx
     refine E_seq (E_region (EL_mv iA rfl ?_))
     refine EL_mv yE rfl ?_
     obtain ⟨gp192, hs, rp192⟩ := OM.pub b169
     have hfr := hfr.stp hs
     have j6 := j6.stp hs rfl
     obtain ⟨y6, uC, h⟩ := bsome h
     have zE := RV_cut rp192 uC
     refine EL_p ((cutV t5 (Int.toNat 0) (Int.toNat u3) 1)) (P_slice Try.underlying22 Try.sizeOf3 rfl rp192 rfl rfl uC) rfl ?_
     refine EL_p (.int .i64 ((y6).length : Int)) (P_len Try.underlying22 rfl zE) rfl ?_
     refine EL_mw (.int .i64 (0)) rfl rfl ?_
     refine EL_nil (thn_n (E_block ?_))
     refine E_lp h (fun (s : (List Int) × Int) e w => ∃ (g : Gh) , Fr gI wI g w ∧ e 4 = j3 ∧ OA 4004 g w 3 (s.1 : List Int) j3 ∧ e 77 = (cutV t5 (Int.toNat 0) (Int.toNat u3) 1) ∧ RV g.m w (y6 : List Int) (cutV t5 (Int.toNat 0) (Int.toNat u3) 1) ∧ e 78 = .int .i64 (((y6).length : Int)) ∧ e 79 = .int .i64 (s.2)) ⟨gp192, hfr, uE, j6, rfl, zE, rfl, rfl⟩ (fun X195 sD mG => ?_)
     rintro ⟨b7, u0⟩ zI zJ ⟨aB, hfr, z9, g7, jA, x6, lA, m8⟩ h
     refine E_seq (E_region (EL_in (.bool ((decide (u0 < ((y6).length : Int))))) m8 lA rfl rfl ?_))
     refine EL_nil (thn_n (E_seq ?_))
     rcases csome h with ⟨bB, h⟩ | ⟨bB, h⟩
     ·refine E_ct bB rfl ?_
      refine E_skip (thn_n ?_)
      obtain ⟨v7, hx, h⟩ := bsome h
      refine E_join (fun e w => ∃ (g : Gh) , Fr gI wI g w ∧ e 4 = j3 ∧ OA 4004 g w 3 (v7 : List Int) j3 ∧ e 77 = (cutV t5 (Int.toNat 0) (Int.toNat u3) 1) ∧ RV g.m w (y6 : List Int) (cutV t5 (Int.toNat 0) (Int.toNat u3) 1) ∧ e 78 = .int .i64 (((y6).length : Int)) ∧ e 79 = .int .i64 (u0)) (fun Q' hQ => ?_) (fun aJ aK hR => ?_)
      ·replace h := hx
       clear hx
       refine E_block ?_
       refine E_seq (E_region ?_)
       obtain ⟨c7, vC, h⟩ := bsome h
       refine EL_p (ePtr ((cutV t5 (Int.toNat 0) (Int.toNat u3) 1)) u0 1) (P_indexAddr (α := Int) Try.underlying22 Try.sizeOf3 jA x6 m8 vC) rfl ?_
       have pH := PT_idx x6 vC
       refine EL_do .plain rfl (D_load (g := aB) Try.isAgg3 Try.sizeOf3 rfl pH fun bK qH => ?_)
       obtain rfl := RV_int.1 qH
       refine EL_at (.int .i64 (c7)) rfl rfl ?_
       refine EL_nil (thn_n (E_region (EL_mv z9 rfl ?_)))
       refine EL_mw (.int .i64 (c7)) rfl rfl ?_
       obtain ⟨nA, xC, h⟩ := bsome h
       refine EL_p (ePtr j3 c7 1) (P_indexAddrM (α := Int) Try.underlying22 Try.sizeOf3 rfl (g7.toM) rfl xC) rfl ?_
       refine EL_do .plain rfl (D_loadM (g := aB) Try.isAgg3 Try.sizeOf3 rfl (g7.toM) xC fun cK sH => ?_)
       obtain rfl := RV_int.1 sH
       refine EL_in (.int .i64 ((w64 (nA + (1 : Int))))) rfl rfl rfl rfl ?_
       obtain ⟨uG, yC, h⟩ := bsome h
       refine EL_p (ePtr j3 c7 1) (P_indexAddrM (α := Int) Try.underlying22 Try.sizeOf3 rfl (g7.toM) rfl yC) rfl ?_
       refine EL_do .plain rfl (D_storeA (g := aB) (α := Int) (a' := ((w64 (nA + (1 : Int))))) Try.sizeOf3 rfl g7 yC rfl (RV_int.2 rfl) fun tH dK hs b211 => ?_)
       have hfr := hfr.stp hs
       have x6 := x6.stp hs
       refine EL_nil (blk_n ?_)
       obtain rfl := sinj h
       exact hQ _ _ ⟨tH, hfr, z9, b211, jA, x6, lA, m8⟩
      ·clear hx
       obtain ⟨uH, hfr, cF, dF, jD, kD, lD, mD⟩ := hR
       refine E_region (EL_in (.int .i64 ((w64 (u0 + (1 : Int))))) mD rfl rfl rfl ?_)
       refine EL_mw (.int .i64 ((w64 (u0 + (1 : Int))))) rfl rfl ?_
       exact EL_nil (thn_n (mG (v7, (w64 (u0 + (1 : Int)))) _ _ ⟨uH, hfr, cF, dF, jD, kD, lD, rfl⟩ h))
     ·refine E_cf bB rfl ?_
      refine E_exit ?_
      refine thn_e ?_
      refine thn_e ?_
      refine blk_hit ?_
      obtain rfl := sinj h
      exact hQ _ _ ⟨aB, hfr, z9, g7⟩
    ·clear hx
     obtain ⟨eK, hfr, eF, iF⟩ := hR
     refine E_seq (E_region (EL_mv eF rfl ?_))
     refine EL_at j3 rfl rfl ?_
     refine EL_at (.int .i64 (0)) rfl rfl ?_
     refine EL_nil (thn_n (E_ret ?_))
     obtain ⟨gp214, hs, rp214⟩ := OM.pub (iF.toM)
     have hfr := hfr.stp hs
     obtain rfl := sinj h
     exact end2 rfl rfl (show _ = j3 from rfl) (show _ = .int .i64 (0) from rfl) ⟨_, hfr, _, _, rfl, rp214, rfl⟩
def f11 (x0 : PayList) (x1 : PayPiece) : Option (Int × Int × Int × Int) :=
 (f25 x0 x1).bind fun y6 =>
 jn (σ := Unit) (fun _ =>
  (f26 (y6.1) x1).bind fun u0 =>
  (f27 (y6.1) u0 ((x1).Faults)).bind fun j3 =>
  (f28 (y6.1) x1 ((x1).Faults)).bind fun o3 =>
  some (u0, j3, o3, (0 : Int))
  ) fun q5 =>
 bif (y6.2 != (0 : Int)) then
  some ((0 : Int), (0 : Int), (0 : Int), y6.2)
 else
  q5 ()
end Go.Proofs.Ytkmbkaoolacofaa
